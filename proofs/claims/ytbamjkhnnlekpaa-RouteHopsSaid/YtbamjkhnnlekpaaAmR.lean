/- The abstract machine: M N O P Q R. -/
import Derived.Test.YtbamjkhnnlekpaaAmLC
/- The abstract machine, thirteenth part: what a call is handed of a state, and what comes back of it. -/
namespace Go.Am

/-- A value with its references named otherwise. -/
def AVal.refs (f : Nat → Nat → Option (Nat × Nat)) : AVal → AVal
  | .ptr r g p => match f r g with | some (r', g') => .ptr r' g' p | none => .junk
  | .slc r g => match f r g with | some (r', g') => .slc r' g' | none => .junk
  | .sub r g lo len ex => match f r g with | some (r', g') => .sub r' g' lo len ex | none => .junk
  | .map r => match f r 0 with | some (r', _) => .map r' | none => .junk
  | .pair a b => .pair (a.refs f) (b.refs f)
  | .one a => .one (a.refs f)
  | .fn i c => .fn i (c.refs f)
  | .iface t v => .iface t (v.refs f)
  | .tup v => .tup (v.refs f)
  | .cons a b => .cons (a.refs f) (b.refs f)
  | v => v

/-- Data as a callee has them: plain data are anyone's. -/
def AVal.weak : AVal → AVal
  | .dat p t x => bif t.plain then .dat false t x else .dat p t x
  | .pair a b => .pair a.weak b.weak
  | .one a => .one a.weak
  | .fn i c => .fn i c.weak
  | .iface t v => .iface t v.weak
  | .tup v => .tup v.weak
  | .cons a b => .cons a.weak b.weak
  | v => v

/-- Is nothing inside lent? -/
def AVal.kept : AVal → Bool
  | .dat p t _ => p || t.plain
  | .ref p _ _ => p
  | .pair a b => a.kept && b.kept
  | .one a => a.kept
  | .fn _ c => c.kept
  | .iface _ v => v.kept
  | .tup v => v.kept
  | .cons a b => a.kept && b.kept
  | _ => true

def AObj.kept : AObj → Bool
  | .box v => v.kept
  | .iter v _ _ => v.kept
  | .vmap _ m => m.all fun e => e.2.kept
  | _ => true

theorem refs_agg (f : Nat → Nat → Option (Nat × Nat)) (v : AVal) : (v.refs f).agg = v.agg := by
  cases v <;> simp only [AVal.refs] <;> first | rfl | (split <;> rfl)
theorem refs_sh (f : Nat → Nat → Option (Nat × Nat)) : ∀ v : AVal, (v.refs f).sh = v.sh := by
  intro v; induction v <;> simp only [AVal.refs] <;> first | rfl | (split <;> rfl) | simp_all [AVal.sh]
theorem refs_flat (f : Nat → Nat → Option (Nat × Nat)) : ∀ v : AVal, (v.refs f).flat = v.flat := by
  intro v; induction v <;> simp only [AVal.refs] <;> first | rfl | (split <;> rfl) | simp_all [AVal.flat]
theorem weak_agg (v : AVal) : v.weak.agg = v.agg := by
  cases v with
  | dat p t d => unfold AVal.weak; cases t.plain <;> rfl
  | _ => rfl

/-- What a name comes to says what was said. -/
structure Names (x y : Ctx) (f : Nat → Nat → Option (Nat × Nat)) : Prop where
  ptr : ∀ r g r' g' p c, f r g = some (r', g') → PtrRel x r g p c → PtrRel y r' g' p c
  slc : ∀ r g r' g' c, f r g = some (r', g') → SlcRel x r g c → SlcRel y r' g' c
  sub : ∀ r g r' g' lo len ex c, f r g = some (r', g') → SubRel x r g lo len ex c → SubRel y r' g' lo len ex c
  map : ∀ r r' g' c, f r 0 = some (r', g') → MapRel x r c → MapRel y r' c

theorem refs_C {x y : Ctx} {f : Nat → Nat → Option (Nat × Nat)} (hs : HS x y) (N : Names x y f) : ∀ (v : AVal) (cs : List Value), v.C x cs → (v.refs f).C y cs := by
  intro v
  induction v with
  | dat p t d => exact fun cs h => h.congr (hs.t p)
  | pair a b iha ihb => rintro cs ⟨c1, c2, e, h1, h2⟩; exact ⟨c1, c2, e, iha _ h1, ihb _ h2⟩
  | one a ih => exact fun cs h => ih cs h
  | ptr r g p =>
    rintro cs ⟨c, e, h1, h⟩; simp only [AVal.refs]
    cases hf : f r g with
    | none => exact ⟨c, e, h1⟩
    | some q => exact ⟨c, e, h1, N.ptr _ _ _ _ _ _ hf h⟩
  | nilp => exact fun _ h => h
  | ref p t d => rintro cs ⟨b, o, ds, e, h1, h2, h3⟩; exact ⟨b, o, ds, e, (hs _ _ h1).1, h2.congr (hs _ _ h1).2, h3.congr (hs.t p)⟩
  | slc r g =>
    rintro cs ⟨c, e, h1, h⟩; simp only [AVal.refs]
    cases hf : f r g with
    | none => exact ⟨c, e, h1⟩
    | some q => exact ⟨c, e, h1, N.slc _ _ _ _ _ hf h⟩
  | sub r g lo len ex =>
    rintro cs ⟨c, e, h1, h⟩; simp only [AVal.refs]
    cases hf : f r g with
    | none => exact ⟨c, e, h1⟩
    | some q => exact ⟨c, e, h1, N.sub _ _ _ _ _ _ _ _ hf h⟩
  | nils => exact fun _ h => h
  | map r =>
    rintro cs ⟨c, e, h1, h⟩; simp only [AVal.refs]
    cases hf : f r 0 with
    | none => exact ⟨c, e, h1⟩
    | some q => exact ⟨c, e, h1, N.map _ _ _ _ hf h⟩
  | nilm => exact fun _ h => h
  | fn i caps ih => rintro cs ⟨vs, e, h⟩; exact ⟨vs, by rw [e]; congr 2; cases caps <;> first | rfl | (simp only [AVal.refs]; split <;> rfl) | (simp only [AVal.weak, AVal.isTup]; rename_i t _; cases t.plain <;> rfl), ih _ h⟩
  | nilf => exact fun _ h => h
  | iface t v ih =>
    rintro cs ⟨u, e, h⟩; refine ⟨u, e, ?_⟩
    rw [refs_agg]
    by_cases hv : v.agg = true
    · rw [if_pos hv] at h ⊢; obtain ⟨c, e, h⟩ := h; exact ⟨c, e, ih _ h⟩
    · rw [if_neg hv] at h ⊢; exact ih _ h
  | nili => exact fun _ h => h
  | tup vs ih => rintro cs ⟨us, e, h⟩; exact ⟨us, e, ih _ h⟩
  | nil => exact fun _ h => h
  | cons a b iha ihb =>
    rintro cs ⟨u, us, e, h, h'⟩; refine ⟨u, us, e, ?_, ihb _ h'⟩
    rw [refs_agg]
    by_cases hv : a.agg = true
    · rw [if_pos hv] at h ⊢; obtain ⟨c, e, h⟩ := h; exact ⟨c, e, iha _ h⟩
    · rw [if_neg hv] at h ⊢; exact iha _ h
  | junk => exact fun _ h => h

theorem V_of_C {x y : Ctx} {v v' : AVal} (ha : v'.agg = v.agg) (hC : ∀ cs, v.C x cs → v'.C y cs) {u : Value} (h : v.V x u) : v'.V y u := by
  unfold AVal.V at *
  rw [ha]
  by_cases hv : v.agg = true
  · rw [if_pos hv] at h ⊢; obtain ⟨c, e, h⟩ := h; exact ⟨c, e, hC _ h⟩
  · rw [if_neg hv] at h ⊢; exact hC _ h

theorem refs_V {x y : Ctx} {f : Nat → Nat → Option (Nat × Nat)} (hs : HS x y) (N : Names x y f) {v : AVal} {u : Value} (h : v.V x u) : (v.refs f).V y u :=
  V_of_C (refs_agg f v) (refs_C hs N v) h

theorem weak_C {x : Ctx} : ∀ (v : AVal) (cs : List Value), v.C x cs → v.weak.C x cs := by
  intro v
  induction v with
  | dat p t d =>
    intro cs h
    unfold AVal.weak
    cases hp : t.plain with
    | false => exact h
    | true => exact Ty.Rel.ofPlain _ _ _ hp h
  | pair a b iha ihb => rintro cs ⟨c1, c2, e, h1, h2⟩; exact ⟨c1, c2, e, iha _ h1, ihb _ h2⟩
  | one a ih => exact fun cs h => ih cs h
  | fn i caps ih => rintro cs ⟨vs, e, h⟩; exact ⟨vs, by rw [e]; congr 2; cases caps <;> first | rfl | (simp only [AVal.refs]; split <;> rfl) | (simp only [AVal.weak, AVal.isTup]; rename_i t _; cases t.plain <;> rfl), ih _ h⟩
  | iface t v ih =>
    rintro cs ⟨u, e, h⟩; refine ⟨u, e, ?_⟩
    rw [weak_agg]
    by_cases hv : v.agg = true
    · rw [if_pos hv] at h ⊢; obtain ⟨c, e, h⟩ := h; exact ⟨c, e, ih _ h⟩
    · rw [if_neg hv] at h ⊢; exact ih _ h
  | tup vs ih => rintro cs ⟨us, e, h⟩; exact ⟨us, e, ih _ h⟩
  | cons a b iha ihb =>
    rintro cs ⟨u, us, e, h, h'⟩; refine ⟨u, us, e, ?_, ihb _ h'⟩
    rw [weak_agg]
    by_cases hv : a.agg = true
    · rw [if_pos hv] at h ⊢; obtain ⟨c, e, h⟩ := h; exact ⟨c, e, iha _ h⟩
    · rw [if_neg hv] at h ⊢; exact iha _ h
  | _ => exact fun _ h => h

/-- Where nothing is lent, it does not matter what is lent. -/
theorem kept_C {x y : Ctx} (hs : Same x.h (x.F true) y.h (y.F true)) (hk : ∀ r, Keeps x y r) : ∀ (v : AVal) (cs : List Value), v.kept = true → v.C x cs → v.C y cs := by
  intro v
  induction v with
  | dat p t d =>
    intro cs hp h
    cases p with
    | true => exact h.congr hs
    | false => exact Ty.Rel.ofPlain t d cs (by simpa [AVal.kept] using hp) h
  | ref p t d =>
    intro cs hp h
    cases p with
    | true => obtain ⟨b, o, ds, e, h1, h2, h3⟩ := h; exact ⟨b, o, ds, e, (hs.on _ h1).1, h2.congr (hs.on _ h1).2, h3.congr hs⟩
    | false => cases hp
  | pair a b iha ihb => rintro cs hp ⟨c1, c2, e, h1, h2⟩; simp only [AVal.kept, Bool.and_eq_true] at hp; exact ⟨c1, c2, e, iha _ hp.1 h1, ihb _ hp.2 h2⟩
  | one a ih => exact fun cs hp h => ih cs hp h
  | ptr r g p => rintro cs _ ⟨c, e, h1, h⟩; exact ⟨c, e, h1, (hk r).ptr _ _ _ h⟩
  | slc r g => rintro cs _ ⟨c, e, h1, h⟩; exact ⟨c, e, h1, (hk r).slc _ _ h⟩
  | sub r g lo len ex => rintro cs _ ⟨c, e, h1, h⟩; exact ⟨c, e, h1, (hk r).sub _ _ _ _ _ h⟩
  | map r => rintro cs _ ⟨c, e, h1, h⟩; exact ⟨c, e, h1, (hk r).map _ h⟩
  | fn i caps ih => rintro cs hp ⟨vs, e, h⟩; exact ⟨vs, e, ih _ hp h⟩
  | iface t v ih =>
    rintro cs hp ⟨u, e, h⟩; refine ⟨u, e, ?_⟩
    by_cases hv : v.agg = true
    · rw [if_pos hv] at h ⊢; obtain ⟨c, e, h⟩ := h; exact ⟨c, e, ih _ hp h⟩
    · rw [if_neg hv] at h ⊢; exact ih _ hp h
  | tup vs ih => rintro cs hp ⟨us, e, h⟩; exact ⟨us, e, ih _ hp h⟩
  | cons a b iha ihb =>
    rintro cs hp ⟨u, us, e, h, h'⟩; simp only [AVal.kept, Bool.and_eq_true] at hp; refine ⟨u, us, e, ?_, ihb _ hp.2 h'⟩
    by_cases hv : a.agg = true
    · rw [if_pos hv] at h ⊢; obtain ⟨c, e, h⟩ := h; exact ⟨c, e, iha _ hp.1 h⟩
    · rw [if_neg hv] at h ⊢; exact iha _ hp.1 h
  | _ => exact fun _ _ h => h

/-- Which one of some references it is. -/
def findRef : List Nat → Nat → Option Nat
  | [], _ => none
  | r' :: l, r => bif Nat.beq r r' then some 0 else (match findRef l r with | some i => some (i + 1) | none => none)

theorem findRef_get : ∀ (l : List Nat) (r i : Nat), findRef l r = some i → l[i]? = some r := by
  intro l
  induction l with
  | nil => intro r i h; cases h
  | cons r' l ih =>
    intro r i h
    unfold findRef at h
    cases hb : Nat.beq r r' with
    | true => rw [hb] at h; cases h; simp [Nat.eq_of_beq_eq_true hb]
    | false =>
      rw [hb] at h
      simp only [cond_false] at h
      split at h
      · rename_i j hj; cases h; simpa using ih r j hj
      · cases h

theorem findRef_none : ∀ (l : List Nat) (r : Nat), findRef l r = none → r ∉ l := by
  intro l
  induction l with
  | nil => intro r _; simp
  | cons r' l ih =>
    intro r h
    unfold findRef at h
    cases hb : Nat.beq r r' with
    | true => rw [hb] at h; cases h
    | false =>
      rw [hb] at h
      simp only [cond_false] at h
      split at h
      · cases h
      · rename_i hn
        simp only [List.mem_cons, not_or]
        exact ⟨(fun e => by rw [e, Nat.beq_refl] at hb; cases hb), ih r hn⟩

theorem findRef_nodup : ∀ (l : List Nat), l.Nodup → ∀ (i r : Nat), l[i]? = some r → findRef l r = some i := by
  intro l
  induction l with
  | nil => intro _ i r h; simp at h
  | cons r' l ih =>
    intro hn i r h
    rw [List.nodup_cons] at hn
    unfold findRef
    cases i with
    | zero => simp at h; subst h; simp [Nat.beq_refl]
    | succ i =>
      have h' : l[i]? = some r := by simpa using h
      have hne : Nat.beq r r' = false := by
        cases hb : Nat.beq r r' with
        | false => rfl
        | true => exact absurd (List.mem_of_getElem? h') (by rw [Nat.eq_of_beq_eq_true hb]; exact hn.1)
      rw [hne, ih hn.2 i r h']; rfl
end Go.Am

/- The abstract machine, fourteenth part: the state behind a call, out of what the callee left. -/
namespace Go.Am

def genOf : AObj → Nat
  | .arr g _ _ => g
  | _ => 0

def locName (loc gens : List Nat) (r g : Nat) : Option (Nat × Nat) :=
  match findRef loc r with
  | some i => bif Nat.beq g (gens.getD i 0) then some (i, 0) else none
  | none => none

def locObj (f : Nat → Nat → Option (Nat × Nat)) : AObj → AObj
  | .box v => .box (v.refs f)
  | .arr _ t xs => .arr 0 t xs
  | .iter v s l => .iter (v.refs f) s l
  | .vmap K m => .vmap K (m.map fun e => (e.1, e.2.refs f))
  | o => o

def backName (loc gens : List Nat) (base : Nat) (i g : Nat) : Option (Nat × Nat) :=
  match loc[i]? with
  | some r => some (r, gens.getD i 0 + g)
  | none => bif Nat.blt i 64 then some (base + (i - loc.length), g) else none

def backObj (b : Nat → Nat → Option (Nat × Nat)) (g0 : Nat) : AObj → AObj
  | .box v => .box (v.refs b)
  | .arr g t xs => .arr (g0 + g) t xs
  | .iter v s l => .iter (v.refs b) s l
  | .vmap K m => .vmap K (m.map fun e => (e.1, e.2.refs b))
  | o => o

def sameKind : AObj → AObj → Bool
  | .box v, .box u => v.sh == u.sh
  | .arr _ t _, .arr _ t' _ => t == t'
  | .map .., .map .. => true
  | .vmap .., .vmap .. => true
  | .pool t _, .pool t' _ => t == t'
  | .pool .., .dead => false
  | _, .dead => true
  | _, _ => false

theorem locObj_live (f : Nat → Nat → Option (Nat × Nat)) (o : AObj) : (locObj f o).live = o.live := by cases o <;> rfl
theorem backObj_live (f : Nat → Nat → Option (Nat × Nat)) (g : Nat) (o : AObj) : (backObj f g o).live = o.live := by cases o <;> rfl

/-- A pool that is handed down under its own name. -/
def handed (x : Ctx) (loc : List Nat) (p : Nat) : Prop := loc[p]? = some p ∧ (x.obj p).isPool = true
open Classical in
/-- Which object of the caller's the callee's object is. -/
noncomputable def Ctx.nm (x : Ctx) (loc : List Nat) (i : Nat) : Option Nat := if i < 64 then loc[i]? else if handed x loc (i % 64) then some i else none

open Classical in
/-- The callee's state: the objects that it is handed, some blocks lent to it. -/
noncomputable def Ctx.loc (x : Ctx) (loc bor : List Nat) : Ctx where
  h := x.h
  S := fun p b => x.S p b ∨ (p = false ∧ ∃ r ∈ bor, ∃ a, (x.obj r).live = true ∧ x.μ r = some a ∧ a.block = b)
  μ := fun i => match x.nm loc i with | some r => x.μ r | none => none
  σ := loc.map fun r => locObj (locName loc (loc.map fun r => genOf (x.obj r))) (x.obj r)
  at_ := x.at_
  pl := fun p => decide (handed x loc p)

/-- What is asked of what is handed down. -/
structure LocOk (x : Ctx) (loc : List Nat) : Prop where
  nodup : loc.Nodup
  len : loc.length ≤ 64
  pools : ∀ i r, loc[i]? = some r → (x.obj r).isPool = true → r = i
  apart : ∀ r ∈ loc, 64 ≤ r → ¬ handed x loc (r % 64)

section
variable {x : Ctx} {loc bor : List Nat}

theorem LocOk.lt (L : LocOk x loc) {i r : Nat} (h : loc[i]? = some r) : i < 64 := Nat.lt_of_lt_of_le (List.getElem?_eq_some_iff.1 h).1 L.len
theorem nm_low {i : Nat} (h : i < 64) : x.nm loc i = loc[i]? := if_pos h
theorem nm_at (L : LocOk x loc) {i r : Nat} (h : loc[i]? = some r) : x.nm loc i = some r := (nm_low (L.lt h)).trans h
theorem nm_cases {i r : Nat} (h : x.nm loc i = some r) : (i < 64 ∧ loc[i]? = some r) ∨ (64 ≤ i ∧ r = i ∧ handed x loc (i % 64)) := by
  unfold Ctx.nm at h
  split at h
  · rename_i hi; exact .inl ⟨hi, h⟩
  · rename_i hi
    split at h
    · rename_i hh; cases h; exact .inr ⟨Nat.le_of_not_lt hi, rfl, hh⟩
    · cases h
theorem nm_inj (L : LocOk x loc) {i i' r : Nat} (h : x.nm loc i = some r) (h' : x.nm loc i' = some r) : i = i' := by
  rcases nm_cases h with ⟨_, h1⟩ | ⟨k1, rfl, h1⟩ <;> rcases nm_cases h' with ⟨_, h2⟩ | ⟨k2, e2, h2⟩
  · have e1 := findRef_nodup loc L.nodup i r h1
    have e2 := findRef_nodup loc L.nodup i' r h2
    rw [e1] at e2; cases e2; rfl
  · subst e2; exact (L.apart r (List.mem_of_getElem? h1) k2 h2).elim
  · exact (L.apart r (List.mem_of_getElem? h2) k1 h1).elim
  · exact e2

theorem obj_virt (x : Ctx) {r : Nat} (h : 64 ≤ r) : x.obj r = elemAt (x.obj (r % 64)) (r / 64 - 1) := by
  unfold Ctx.obj
  rw [objAt_low (σ := x.σ) (r := r % 64) (Nat.mod_lt _ (by omega))]
  unfold objAt
  rw [if_neg (by omega)]
theorem elem_box (o : AObj) (j : Nat) : elemAt o j = .free ∨ ∃ t d, elemAt o j = .box (.dat true t d) := by
  cases o with
  | pool t xs =>
    unfold elemAt
    cases h : xs[j]? with
    | none => exact .inl (by simp [h])
    | some d => exact .inr ⟨t, d, by simp [h]⟩
  | _ => exact .inl rfl
theorem virt_pool (x : Ctx) {r : Nat} (h : 64 ≤ r) : (x.obj r).isPool = false := by
  rw [obj_virt x h]
  rcases elem_box (x.obj (r % 64)) (r / 64 - 1) with e | ⟨t, d, e⟩ <;> rw [e] <;> rfl

theorem loc_low {i r : Nat} (hi : i < 64) (h : loc[i]? = some r) : (x.loc loc bor).obj i = locObj (locName loc (loc.map fun r => genOf (x.obj r))) (x.obj r) := by
  show objAt _ i = _
  rw [objAt_low hi]
  unfold Ctx.loc
  rw [List.getD_eq_getElem?_getD, List.getElem?_map, h]; rfl

theorem loc_obj (L : LocOk x loc) {i r : Nat} (h : x.nm loc i = some r) : (x.loc loc bor).obj i = locObj (locName loc (loc.map fun r => genOf (x.obj r))) (x.obj r) := by
  rcases nm_cases h with ⟨hi, h1⟩ | ⟨hi, rfl, h1, h2⟩
  · exact loc_low hi h1
  · rw [obj_virt _ hi, loc_low (L.lt h1) h1, obj_virt x hi]
    have : locObj (locName loc (loc.map fun r => genOf (x.obj r))) (x.obj (r % 64)) = x.obj (r % 64) := by
      cases ho : x.obj (r % 64) <;> first | rfl | (rw [ho] at h2; cases h2)
    rw [this]
    rcases elem_box (x.obj (r % 64)) (r / 64 - 1) with e | ⟨t, d, e⟩ <;> rw [e] <;> rfl

theorem loc_obj_none (L : LocOk x loc) {i : Nat} (h : x.nm loc i = none) : (x.loc loc bor).obj i = .free := by
  by_cases hi : i < 64
  · rw [nm_low hi] at h
    show objAt _ i = _
    rw [objAt_low hi]
    unfold Ctx.loc
    rw [List.getD_eq_getElem?_getD, List.getElem?_map, h]; rfl
  · have hi := Nat.le_of_not_lt hi
    have hp : i % 64 < 64 := Nat.mod_lt _ (by omega)
    rw [obj_virt _ hi]
    cases hl : loc[i % 64]? with
    | none =>
      have : (x.loc loc bor).obj (i % 64) = .free := by
        show objAt _ _ = _
        rw [objAt_low hp]
        unfold Ctx.loc
        rw [List.getD_eq_getElem?_getD, List.getElem?_map, hl]; rfl
      rw [this]; rfl
    | some r =>
      rw [loc_low hp hl]
      refine elemAt_not ?_ _
      cases hx : (x.obj r).isPool with
      | true =>
        have e := L.pools _ _ hl hx
        rw [e] at hl hx
        unfold Ctx.nm at h
        rw [if_neg (by omega), if_pos ⟨hl, hx⟩] at h
        cases h
      | false => cases ho : x.obj r <;> first | rfl | (rw [ho] at hx; cases hx)

theorem loc_μ {i r : Nat} (h : x.nm loc i = some r) : (x.loc loc bor).μ i = x.μ r := by
  show (match x.nm loc i with | some r => x.μ r | none => none) = _
  rw [h]

theorem gens_at {i r : Nat} (h : loc[i]? = some r) : (loc.map fun r => genOf (x.obj r)).getD i 0 = genOf (x.obj r) := by
  rw [List.getD_eq_getElem?_getD, List.getElem?_map, h]; rfl

theorem locName_some {gens : List Nat} {r g r' g' : Nat} (h : locName loc gens r g = some (r', g')) : loc[r']? = some r ∧ g' = 0 ∧ g = gens.getD r' 0 := by
  unfold locName at h
  split at h
  · rename_i i hi
    obtain ⟨h1, h2⟩ := cond_some h
    cases h2
    exact ⟨findRef_get _ _ _ hi, rfl, Nat.eq_of_beq_eq_true h1⟩
  · cases h

theorem loc_names (L : LocOk x loc) : Names x (x.loc loc bor) (locName loc (loc.map fun r => genOf (x.obj r))) := by
  refine ⟨fun r g r' g' p c h hp => ?_, fun r g r' g' c h hp => ?_, fun r g r' g' lo len ex c h hp => ?_, fun r r' g' c h hp => ?_⟩
  all_goals
    obtain ⟨h1, rfl, h3⟩ := locName_some h
    rw [gens_at h1] at h3
    have h1 := nm_at L h1
  · unfold PtrRel at hp ⊢
    rw [loc_obj L h1, loc_μ h1]
    cases ho : x.obj r with
    | box v => rw [ho] at hp; simp only [locObj, refs_sh]; exact hp
    | arr g' t xs => rw [ho] at hp h3; simp only [locObj]; exact ⟨Nat.le_refl _, fun _ => hp.2 h3⟩
    | free => rw [ho] at hp; exact hp
    | _ => trivial
  · unfold SlcRel at hp ⊢
    rw [loc_obj L h1, loc_μ h1]
    cases ho : x.obj r with
    | arr g' t xs => rw [ho] at hp h3; simp only [locObj]; exact ⟨Nat.le_refl _, fun _ => hp.2 h3⟩
    | free => rw [ho] at hp; exact hp
    | _ => trivial
  · unfold SubRel at hp ⊢
    rw [loc_obj L h1, loc_μ h1]
    cases ho : x.obj r with
    | arr g' t xs => rw [ho] at hp h3; simp only [locObj]; exact ⟨Nat.le_refl _, fun _ => hp.2 h3⟩
    | free => rw [ho] at hp; exact hp
    | _ => trivial
  · unfold MapRel at hp ⊢
    rw [loc_obj L h1, loc_μ h1]
    cases ho : x.obj r with
    | map K V m bs clk => rw [ho] at hp; simp only [locObj]; exact hp
    | iter v s l => rw [ho] at hp; simp only [locObj]; exact hp
    | vmap K m => rw [ho] at hp; simp only [locObj]; exact hp
    | free => rw [ho] at hp; exact hp
    | _ => trivial

theorem loc_S : HS x (x.loc loc bor) := ⟨fun _ _ h => ⟨.inl h, rfl⟩, fun _ _ _ h => h⟩

open Classical in
theorem loc_mem (M : Mem x) (L : LocOk x loc) (hdis : ∀ r ∈ bor, r ∉ loc ∧ r < 64) : Mem (x.loc loc bor) := by
  refine ⟨fun i => ?_, fun i i' a a' hne l l' m m' => ?_, fun p b hb => ?_, fun b hb => ?_, by show (loc.map _).length ≤ 64; rw [List.length_map]; exact L.len⟩
  · cases hi : x.nm loc i with
    | none => rw [loc_obj_none L hi]; trivial
    | some r =>
      rw [loc_obj L hi]
      have h := M.objs r
      cases ho : x.obj r with
      | box v =>
        rw [ho] at h
        obtain ⟨b, c, e, h1, h2, h3, h4⟩ := h
        exact ⟨b, c, e, (loc_μ hi).trans h1, h2, refs_C loc_S (loc_names L) v _ h3, (refs_flat _ v).trans h4⟩
      | arr g t xs =>
        rw [ho] at h
        rcases h with ⟨h1, h2⟩ | ⟨b, o, c, e, css, h1, h2, h3, h4⟩
        · exact .inl ⟨(loc_μ hi).trans h1, h2⟩
        · exact .inr ⟨b, o, c, e, css, (loc_μ hi).trans h1, h2, h3.mono fun _ _ h => h.congr (loc_S.t true), h4⟩
      | map K V m bs clk =>
        rw [ho] at h
        obtain ⟨b, es, h1, h2, h3, h4⟩ := h
        exact ⟨b, es, (loc_μ hi).trans h1, h2, h3.mono fun _ _ h => ⟨DatV.congr loc_S h.1, DatV.congr loc_S h.2⟩, h4⟩
      | iter v s l =>
        rw [ho] at h
        obtain ⟨b, m, h1, h2, h3, h4⟩ := h
        exact ⟨b, m, (loc_μ hi).trans h1, h2, refs_C loc_S (loc_names L) v _ h3, (refs_flat _ v).trans h4⟩
      | vmap K m =>
        rw [ho] at h
        obtain ⟨b, es, clk, h1, h2, h3⟩ := h
        exact ⟨b, es, clk, (loc_μ hi).trans h1, h2, h3.mapL fun _ _ h => ⟨DatV.congr loc_S h.1, refs_V loc_S (loc_names L) h.2⟩⟩
      | pool t xs =>
        rw [ho] at h
        obtain ⟨h1, h2, h3, h4, h5⟩ := h
        rcases nm_cases hi with ⟨hl, hi'⟩ | ⟨hl, rfl, _⟩
        · have e := L.pools _ _ hi' (by rw [ho]; rfl)
          subst e
          have hh : handed x loc r := ⟨hi', by rw [ho]; rfl⟩
          refine ⟨decide_eq_true hh, h2, (loc_μ hi).trans h3, fun j hj => ?_, h5⟩
          obtain ⟨b, k1, k2⟩ := h4 j hj
          refine ⟨b, k1, (loc_μ ?_).trans k2⟩
          unfold Ctx.nm
          rw [if_neg (by have := virt_ge r j; omega), virt_mod h2, if_pos hh]
        · omega
      | dead => trivial
      | free => trivial
  · cases hi : x.nm loc i with
    | none => rw [loc_obj_none L hi] at l; cases l
    | some r =>
      cases hi' : x.nm loc i' with
      | none => rw [loc_obj_none L hi'] at l'; cases l'
      | some r' =>
        rw [loc_obj L hi, locObj_live] at l
        rw [loc_obj L hi', locObj_live] at l'
        rw [loc_μ hi] at m
        rw [loc_μ hi'] at m'
        refine M.apart r r' a a' (fun e => ?_) l l' m m'
        subst e
        exact hne (nm_inj L hi hi')
  · rcases hb with hb | ⟨_, r, hr, a, hl, ha, e⟩
    · obtain ⟨h1, h2⟩ := M.still p b hb
      refine ⟨h1, fun i a l m => ?_⟩
      cases hi : x.nm loc i with
      | none => rw [loc_obj_none L hi] at l; cases l
      | some r => rw [loc_obj L hi, locObj_live] at l; rw [loc_μ hi] at m; exact h2 r a l m
    · subst e
      refine ⟨M.there hl ha, fun i a' l m => ?_⟩
      cases hi : x.nm loc i with
      | none => rw [loc_obj_none L hi] at l; cases l
      | some r' =>
        rw [loc_obj L hi, locObj_live] at l
        rw [loc_μ hi] at m
        refine M.apart r' r a' a (fun e => ?_) l hl m ha
        subst e
        rcases nm_cases hi with ⟨_, h1⟩ | ⟨h1, _⟩
        · exact (hdis r' hr).1 (List.mem_of_getElem? h1)
        · have e := (hdis r' hr).2
          rcases nm_cases hi with ⟨h2, _⟩ | ⟨_, e2, _⟩ <;> omega
  · rcases hb with hb | ⟨h, _⟩
    · exact .inl (M.sub b hb)
    · cases h

theorem loc_owned (L : LocOk x loc) {b : Nat} (h : Owned (x.loc loc bor) b) : ∃ (i r : Nat) (a : Addr), x.nm loc i = some r ∧ (x.obj r).live = true ∧ x.μ r = some a ∧ a.block = b := by
  obtain ⟨i, a, l, m, e⟩ := h
  cases hi : x.nm loc i with
  | none => rw [loc_obj_none L hi] at l; cases l
  | some r => rw [loc_obj L hi, locObj_live] at l; rw [loc_μ hi] at m; exact ⟨i, r, a, hi, l, m, e⟩
end

def lookUp : Ups → Nat → Option AObj
  | [], _ => none
  | (r', o) :: u, r => if r = r' then some o else lookUp u r

theorem applyUps_obj : ∀ (ups : Ups) (σ : List AObj), (ups.map (·.1)).Nodup → (∀ p ∈ ups, p.1 < σ.length) → ∀ r, (applyUps σ ups).getD r .free = (lookUp ups r).getD (σ.getD r .free) := by
  intro ups
  induction ups with
  | nil => intro σ _ _ r; rfl
  | cons p ups ih =>
    intro σ hn hl r
    obtain ⟨r', o⟩ := p
    rw [List.map_cons, List.nodup_cons] at hn
    have hlt : r' < σ.length := hl (r', o) (by simp)
    show (applyUps (σ.set r' o) ups).getD r .free = _
    rw [ih (σ.set r' o) hn.2 (fun p hp => by rw [List.length_set]; exact hl p (by simp [hp])) r]
    show _ = (if r = r' then some o else lookUp ups r).getD _
    by_cases e : r = r'
    · subst e
      rw [if_pos rfl]
      have hnone : ∀ (u : Ups), r ∉ u.map (·.1) → lookUp u r = none := by
        intro u
        induction u with
        | nil => intro _; rfl
        | cons q u ihu =>
          intro h
          rw [List.map_cons, List.mem_cons, not_or] at h
          show (if r = q.1 then some q.2 else lookUp u r) = none
          rw [if_neg h.1]; exact ihu h.2
      rw [hnone ups hn.1]
      simp [List.getD_eq_getElem?_getD, List.getElem?_set, hlt]
    · rw [if_neg e]
      have : (σ.set r' o).getD r .free = σ.getD r .free := by
        simp only [List.getD_eq_getElem?_getD, List.getElem?_set]
        rw [if_neg (fun e' => e e'.symm)]
      rw [this]
end Go.Am

/- The abstract machine, fifteenth part: what a caller knows behind a call. -/
namespace Go.Am

open Classical in
/-- Which of the callee's objects an object of the caller's was. -/
noncomputable def Ctx.iv (x : Ctx) (loc : List Nat) (base fresh : Nat) (r : Nat) : Option Nat := match findRef loc r with
  | some i => some i
  | none => if 64 ≤ r ∧ handed x loc (r % 64) then some r else if base ≤ r ∧ r < base + fresh then some (loc.length + (r - base)) else none

/-- The caller's state behind the call: y: what the callee left. -/
noncomputable def Ctx.back (x y : Ctx) (loc bor : List Nat) (base fresh : Nat) (σ' : List AObj) : Ctx where
  h := y.h
  S := fun p b => if p = true then y.S true b else if bor = [] then y.S false b else x.S false b ∨ y.S true b
  μ := fun r => match x.iv loc base fresh r with
    | some i => y.μ i
    | none => x.μ r
  σ := σ'
  at_ := y.at_
  pl := x.pl

/-- What is asked of a call's annotation, and of what the callee left. -/
structure CallFits (x y : Ctx) (loc bor : List Nat) (base fresh : Nat) (σ' : List AObj) : Prop where
  L : LocOk x loc
  mem : Mem x
  live : ∀ r ∈ loc, (x.obj r).live = true
  free : ∀ j, j < fresh → x.σ[base + j]? = some .free
  lent : ∀ r ∈ bor, (r ∉ loc ∧ (x.obj r).live = true) ∧ r < 64
  len : y.σ.length = loc.length + fresh
  top : loc.length + fresh ≤ 64
  kind : ∀ i r, loc[i]? = some r → sameKind (x.obj r) (y.obj i) = true
  fr : ∀ j, j < fresh → (y.obj (loc.length + j)).isPool = false
  kept : bor = [] ∨ ∀ i, (y.obj i).kept = true
  objI : ∀ r i, x.iv loc base fresh r = some i → objAt σ' r = backObj (backName loc (loc.map fun r => genOf (x.obj r)) base) (genOf (x.obj r)) (y.obj i)
  objN : ∀ r, x.iv loc base fresh r = none → objAt σ' r = x.obj r ∨ ∃ t xs ys, x.obj r = .pool t xs ∧ objAt σ' r = .pool t ys ∧ ys.length = xs.length
  slen : σ'.length ≤ 64

section
variable {x y' : Ctx} {loc bor : List Nat} {base fresh : Nat} {σ' : List AObj} {w w' : World}

theorem zip_lookup : ∀ (ks : List Nat) (os : List AObj), ks.Nodup → ks.length = os.length → ∀ (i : Nat) k, ks[i]? = some k → lookUp (ks.zip os) k = os[i]? := by
  intro ks
  induction ks with
  | nil => intro os _ _ i k h; simp at h
  | cons k0 ks ih =>
    intro os hn hl i k h
    cases os with
    | nil => cases hl
    | cons o os =>
      rw [List.nodup_cons] at hn
      show (if k = k0 then some o else lookUp (ks.zip os) k) = _
      cases i with
      | zero => simp at h; subst h; simp
      | succ i =>
        have h' : ks[i]? = some k := by simpa using h
        rw [if_neg (fun e => hn.1 (by rw [← e]; exact List.mem_of_getElem? h'))]
        simpa using ih os hn.2 (by simpa using hl) i k h'

theorem zip_lookup_none : ∀ (ks : List Nat) (os : List AObj) (k : Nat), k ∉ ks → lookUp (ks.zip os) k = none := by
  intro ks
  induction ks with
  | nil => intro os k _; rfl
  | cons k0 ks ih =>
    intro os k h
    rw [List.mem_cons, not_or] at h
    cases os with
    | nil => rfl
    | cons o os => show (if k = k0 then some o else lookUp (ks.zip os) k) = _; rw [if_neg h.1]; exact ih os k h.2

theorem CallFits.isFree (F : CallFits x y' loc bor base fresh σ') {r : Nat} (h : base ≤ r ∧ r < base + fresh) : x.obj r = .free ∧ r < 64 := by
  have := F.free (r - base) (by omega)
  rw [show base + (r - base) = r by omega] at this
  exact ⟨obj_of_get F.mem this, F.mem.low this⟩

theorem CallFits.notLoc (F : CallFits x y' loc bor base fresh σ') {r : Nat} (h : base ≤ r ∧ r < base + fresh) : findRef loc r = none := by
  cases hf : findRef loc r with
  | none => rfl
  | some j =>
    have h1 := F.live _ (List.mem_of_getElem? (findRef_get _ _ _ hf))
    rw [(F.isFree h).1] at h1; cases h1

theorem iv_nm (L : LocOk x loc) {i r : Nat} (h : x.nm loc i = some r) : x.iv loc base fresh r = some i := by
  unfold Ctx.iv
  rcases nm_cases h with ⟨_, h1⟩ | ⟨h1, rfl, h2⟩
  · rw [findRef_nodup loc L.nodup i r h1]
  · have : findRef loc r = none := by
      cases hf : findRef loc r with
      | none => rfl
      | some j => exact (L.apart r (List.mem_of_getElem? (findRef_get _ _ _ hf)) h1 h2).elim
    rw [this]
    simp only
    rw [if_pos ⟨h1, h2⟩]

theorem iv_cases (L : LocOk x loc) {i r : Nat} (h : x.iv loc base fresh r = some i) : x.nm loc i = some r ∨ ((base ≤ r ∧ r < base + fresh) ∧ i = loc.length + (r - base)) := by
  unfold Ctx.iv at h
  split at h
  · rename_i j hf
    cases h
    exact .inl (nm_at L (findRef_get _ _ _ hf))
  · split at h
    · rename_i hh
      cases h
      refine .inl ?_
      unfold Ctx.nm
      rw [if_neg (by omega), if_pos hh.2]
    · split at h
      · rename_i hb; cases h; exact .inr ⟨hb, rfl⟩
      · cases h

theorem iv_fresh (F : CallFits x y' loc bor base fresh σ') {r : Nat} (h : base ≤ r ∧ r < base + fresh) : x.iv loc base fresh r = some (loc.length + (r - base)) := by
  unfold Ctx.iv
  rw [F.notLoc h]
  simp only
  rw [if_neg (fun e => by have := (F.isFree h).2; omega), if_pos h]

theorem iv_inj (F : CallFits x y' loc bor base fresh σ') {i r r' : Nat} (h : x.iv loc base fresh r = some i) (h' : x.iv loc base fresh r' = some i) : r = r' := by
  have hl : ∀ {r}, x.nm loc i = some r → i < loc.length ∨ 64 ≤ i := fun h => by
    rcases nm_cases h with ⟨_, h1⟩ | ⟨h1, _⟩
    · exact .inl (List.getElem?_eq_some_iff.1 h1).1
    · exact .inr h1
  have ht := F.top
  rcases iv_cases F.L h with h1 | ⟨h1, e1⟩ <;> rcases iv_cases F.L h' with h2 | ⟨h2, e2⟩
  · rw [h1] at h2; cases h2; rfl
  · have := hl h1; omega
  · have := hl h2; omega
  · omega

theorem nm_gen {i r : Nat} (h : x.nm loc i = some r) (hi : i < 64) : (loc.map fun r => genOf (x.obj r)).getD i 0 = genOf (x.obj r) := by
  rw [nm_low hi] at h; exact gens_at h

theorem back_μ {r i : Nat} (h : x.iv loc base fresh r = some i) : (x.back y' loc bor base fresh σ').μ r = y'.μ i := by
  show (match x.iv loc base fresh r with | some i => y'.μ i | none => x.μ r) = _
  rw [h]
theorem back_μ_none {r : Nat} (h : x.iv loc base fresh r = none) : (x.back y' loc bor base fresh σ').μ r = x.μ r := by
  show (match x.iv loc base fresh r with | some i => y'.μ i | none => x.μ r) = _
  rw [h]

/-- Where an object of the callee's is now: which one it is to the caller. -/
theorem back_at (F : CallFits x y' loc bor base fresh σ') (i : Nat) (hi : i < loc.length + fresh) : ∃ r, (∀ g, backName loc (loc.map fun r => genOf (x.obj r)) base i g = some (r, genOf (x.obj r) + g)) ∧ x.iv loc base fresh r = some i := by
  cases h : loc[i]? with
  | some r =>
    refine ⟨r, fun g => ?_, iv_nm F.L (nm_at F.L h)⟩
    unfold backName; rw [h]; simp only [gens_at h]
  | none =>
    have hl : loc.length ≤ i := List.getElem?_eq_none_iff.1 h
    have hb : base ≤ base + (i - loc.length) ∧ base + (i - loc.length) < base + fresh := by omega
    refine ⟨base + (i - loc.length), fun g => ?_, ?_⟩
    · unfold backName
      rw [h, (F.isFree hb).1]
      have : Nat.blt i 64 = true := by have := F.top; simp [Nat.blt_eq]; omega
      simp [this, genOf]
    · rw [iv_fresh F hb]
      congr 1; omega

theorem obj_beyond {i : Nat} (h : y'.σ.length ≤ i) (hi : i < 64) : y'.obj i = .free := by
  unfold Ctx.obj; rw [objAt_low hi, List.getD_eq_getElem?_getD, List.getElem?_eq_none h]; rfl

theorem back_name (F : CallFits x y' loc bor base fresh σ') {i g : Nat} {q : Nat × Nat} (h : backName loc (loc.map fun r => genOf (x.obj r)) base i g = some q) : i < loc.length + fresh ∨ y'.obj i = .free := by
  rcases Nat.lt_or_ge i (loc.length + fresh) with hi | hi
  · exact .inl hi
  · refine .inr (obj_beyond (by rw [F.len]; exact hi) ?_)
    unfold backName at h
    rw [List.getElem?_eq_none (by omega)] at h
    obtain ⟨h, _⟩ := cond_some h
    simpa [Nat.blt_eq] using h

theorem back_names (F : CallFits x y' loc bor base fresh σ') : Names y' (x.back y' loc bor base fresh σ') (backName loc (loc.map fun r => genOf (x.obj r)) base) := by
  refine ⟨fun i g r' g' p c h hp => ?_, fun i g r' g' c h hp => ?_, fun i g r' g' lo len ex c h hp => ?_, fun i r' g' c h hp => ?_⟩
  · rcases back_name F h with hi | hi
    · obtain ⟨r, h1, h2⟩ := back_at F i hi
      rw [h1] at h; cases h
      unfold PtrRel at hp ⊢
      rw [show (x.back y' loc bor base fresh σ').obj _ = _ from F.objI _ i h2, back_μ h2]
      cases ho : y'.obj i with
      | box v => rw [ho] at hp; simp only [backObj, refs_sh]; exact hp
      | arr g' t xs => rw [ho] at hp; simp only [backObj]; exact ⟨by omega, fun e => hp.2 (by omega)⟩
      | free => rw [ho] at hp; exact hp
      | _ => trivial
    · unfold PtrRel at hp; rw [hi] at hp; exact hp.elim
  · rcases back_name F h with hi | hi
    · obtain ⟨r, h1, h2⟩ := back_at F i hi
      rw [h1] at h; cases h
      unfold SlcRel at hp ⊢
      rw [show (x.back y' loc bor base fresh σ').obj _ = _ from F.objI _ i h2, back_μ h2]
      cases ho : y'.obj i with
      | arr g' t xs => rw [ho] at hp; simp only [backObj]; exact ⟨by omega, fun e => hp.2 (by omega)⟩
      | free => rw [ho] at hp; exact hp
      | _ => trivial
    · unfold SlcRel at hp; rw [hi] at hp; exact hp.elim
  · rcases back_name F h with hi | hi
    · obtain ⟨r, h1, h2⟩ := back_at F i hi
      rw [h1] at h; cases h
      unfold SubRel at hp ⊢
      rw [show (x.back y' loc bor base fresh σ').obj _ = _ from F.objI _ i h2, back_μ h2]
      cases ho : y'.obj i with
      | arr g' t xs => rw [ho] at hp; simp only [backObj]; exact ⟨by omega, fun e => hp.2 (by omega)⟩
      | free => rw [ho] at hp; exact hp
      | _ => trivial
    · unfold SubRel at hp; rw [hi] at hp; exact hp.elim
  · rcases back_name F h with hi | hi
    · obtain ⟨r, h1, h2⟩ := back_at F i hi
      rw [h1] at h; cases h
      unfold MapRel at hp ⊢
      rw [show (x.back y' loc bor base fresh σ').obj _ = _ from F.objI _ i h2, back_μ h2]
      cases ho : y'.obj i with
      | map K V m bs clk => rw [ho] at hp; simp only [backObj]; exact hp
      | iter v s l => rw [ho] at hp; simp only [backObj]; exact hp
      | vmap K m => rw [ho] at hp; simp only [backObj]; exact hp
      | free => rw [ho] at hp; exact hp
      | _ => trivial
    · unfold MapRel at hp; rw [hi] at hp; exact hp.elim
end
end Go.Am

/- The abstract machine, sixteenth part: a call, seen from the caller. -/
namespace Go.Am
section
variable {x y' : Ctx} {loc bor : List Nat} {base fresh : Nat} {σ' : List AObj} {w w' : World}

/-- y', but that nothing is lent. -/
def Ctx.unlent (y : Ctx) : Ctx := { y with S := fun _ => y.S true }

theorem unlent_keeps (y : Ctx) (r : Nat) : Keeps y y.unlent r := ⟨fun _ _ _ h => h, fun _ _ h => h, fun _ _ _ _ _ h => h, fun _ h => h⟩

theorem unlent_C {y : Ctx} {v : AVal} {cs : List Value} (hk : v.kept = true) (h : v.C y cs) : v.C y.unlent cs :=
  kept_C (x := y) (y := y.unlent) ⟨fun _ hb => ⟨hb, rfl⟩, fun _ _ _ h => h⟩ (unlent_keeps y) v cs hk h

/-- A value of the callee's, as the caller has it. -/
theorem back_C (G : Goes (x.loc loc bor) w y' w') (F : CallFits x y' loc bor base fresh σ') {v : AVal} {cs : List Value} (hk : bor = [] ∨ v.kept = true) (h : v.C y' cs) :
    (v.refs (backName loc (loc.map fun r => genOf (x.obj r)) base)).C (x.back y' loc bor base fresh σ') cs := by
  rcases hk with hb | hk
  · exact refs_C (x := y') (y := x.back y' loc bor base fresh σ') ⟨fun p b hp => ⟨by
      show (if p = true then y'.S true b else if bor = [] then y'.S false b else _)
      cases p with
      | true => exact hp
      | false => rw [if_neg (by simp), if_pos hb]; exact hp, rfl⟩, fun _ _ _ h => h⟩ (back_names F) v cs h
  · refine refs_C (x := y'.unlent) (y := x.back y' loc bor base fresh σ') ⟨fun p b hp => ⟨?_, rfl⟩, fun _ _ _ h => h⟩ ⟨(back_names F).ptr, (back_names F).slc, (back_names F).sub, (back_names F).map⟩ v cs (unlent_C hk h)
    show (if p = true then y'.S true b else if bor = [] then y'.S false b else _)
    have hp : y'.S true b := hp
    cases p with
    | true => exact hp
    | false =>
      rw [if_neg (by simp)]
      split
      · exact G.mem.sub b hp
      · exact .inr hp

theorem back_live (F : CallFits x y' loc bor base fresh σ') {r : Nat} (hn : x.iv loc base fresh r = none) (h : ((x.back y' loc bor base fresh σ').obj r).live = true) : (x.obj r).live = true := by
  rcases F.objN r hn with e | ⟨t, xs, ys, e1, e2, _⟩
  · rw [show (x.back y' loc bor base fresh σ').obj r = _ from e] at h; exact h
  · rw [e1]; rfl

theorem owned_back (F : CallFits x y' loc bor base fresh σ') {b : Nat} (h : Owned (x.back y' loc bor base fresh σ') b) : Owned y' b ∨ ∃ r a, x.iv loc base fresh r = none ∧ (x.obj r).live = true ∧ x.μ r = some a ∧ a.block = b := by
  obtain ⟨r, a, l, m, e⟩ := h
  cases hf : x.iv loc base fresh r with
  | some i =>
    rw [show (x.back y' loc bor base fresh σ').obj r = _ from F.objI r i hf, backObj_live] at l
    rw [back_μ hf] at m
    exact .inl ⟨i, a, l, m, e⟩
  | none => rw [back_μ_none hf] at m; exact .inr ⟨r, a, hf, back_live F hf l, m, e⟩

/-- An element of a pool that was handed down by itself lies where it lay. -/
theorem back_elem (G : Goes (x.loc loc bor) w y' w') (F : CallFits x y' loc bor base fresh σ') {r i : Nat} (hr : 64 ≤ r) (h : loc[i]? = some r) : y'.μ i = x.μ r := by
  have hl := F.live r (List.mem_of_getElem? h)
  have hb := obj_virt x hr
  have hm := F.mem.objs r
  have hkind := F.kind i r h
  rcases elem_box (x.obj (r % 64)) (r / 64 - 1) with e | ⟨t, d, e⟩
  · rw [hb, e] at hl; cases hl
  rw [e] at hb
  rw [hb] at hm hkind
  obtain ⟨b, c, e', h1, _⟩ := hm
  have hn := nm_at F.L h
  have hp : PtrRel (x.loc loc bor) i 0 [] (ptrTo ⟨b, 0, none⟩ 0) := by
    unfold PtrRel
    rw [loc_obj F.L hn, hb, loc_μ hn]
    exact ⟨_, _, 0, h1, by unfold Sh.at; rfl, rfl⟩
  have hp := (G.keeps i).ptr _ _ _ hp
  have hob := F.objI r i (iv_nm F.L hn)
  have hm' := G.mem.objs i
  cases hy : y'.obj i with
  | box u =>
    rw [hy] at hm'
    obtain ⟨b', c', e2, k1, _⟩ := hm'
    unfold PtrRel at hp
    rw [hy] at hp
    obtain ⟨a, s, o, q1, q2, q3⟩ := hp
    rw [k1] at q1; cases q1
    unfold Sh.at at q2
    cases q2
    simp only [ptrTo, Value.pointer.injEq, Option.some.injEq, Addr.mk.injEq, and_true] at q3
    rw [k1, h1, q3]
  | dead =>
    rw [hy] at hob
    have : objAt σ' r = .dead := hob
    have h2 : objAt σ' r = elemAt (σ'.getD (r % 64) .free) (r / 64 - 1) := by unfold objAt; rw [if_neg (by omega)]
    rw [h2] at this
    rcases elem_box (σ'.getD (r % 64) .free) (r / 64 - 1) with e | ⟨_, _, e⟩ <;> rw [e] at this <;> cases this
  | _ => rw [hy] at hkind; cases hkind

open Classical in
theorem call_goes (M : Mem x) (hh : x.h = fun b => w.heap[b]?) (G : Goes (x.loc loc bor) w y' w') (F : CallFits x y' loc bor base fresh σ') : Goes x w (x.back y' loc bor base fresh σ') w' := by
  have hlow : ∀ b, (x.h b).isSome = true → b < w.heap.size := fun b hb => by rw [hh] at hb; simpa using hb
  -- what the callee owned at first, the caller owned
  have own0 : ∀ b, Owned (x.loc loc bor) b → ∃ r a, x.iv loc base fresh r ≠ none ∧ (x.obj r).live = true ∧ x.μ r = some a ∧ a.block = b := fun b h => by
    obtain ⟨i, r, a, h1, h2, h3, h4⟩ := loc_owned F.L h
    exact ⟨r, a, by rw [iv_nm F.L h1]; simp, h2, h3, h4⟩
  -- the blocks of the caller's other objects are none of the callee's
  have others : ∀ r a, x.iv loc base fresh r = none → (x.obj r).live = true → x.μ r = some a → ¬ Owned (x.loc loc bor) a.block ∧ ¬ Owned y' a.block ∧ w'.heap[a.block]? = w.heap[a.block]? := by
    intro r a hr hl ha
    have h1 : ¬ Owned (x.loc loc bor) a.block := fun h => by
      obtain ⟨r', a', h1, h2, h3, h4⟩ := own0 _ h
      exact M.apart r' r a' a (fun e => h1 (e ▸ hr)) h2 hl h3 ha h4
    have hlt := hlow _ (M.there hl ha)
    refine ⟨h1, fun h => ?_, G.frame _ hlt h1⟩
    rcases G.own _ h with h2 | h2
    · exact h1 h2
    · omega
  have hS : HS x (x.back y' loc bor base fresh σ') := by
    refine ⟨fun p b hb => ?_, G.S.at_⟩
    obtain ⟨h1, h2⟩ := G.S p b (.inl hb)
    refine ⟨?_, h2⟩
    show (if p = true then y'.S true b else if bor = [] then y'.S false b else _)
    cases p with
    | true => exact h1
    | false =>
      rw [if_neg (by simp)]
      split
      · exact h1
      · exact .inl hb
  have keeps : ∀ r, Keeps x (x.back y' loc bor base fresh σ') r := by
    intro r
    cases hv : x.iv loc base fresh r with
    | some i =>
      have hob : (x.back y' loc bor base fresh σ').obj r = backObj (backName loc (loc.map fun r => genOf (x.obj r)) base) (genOf (x.obj r)) (y'.obj i) := F.objI r i hv
      have hmu : (x.back y' loc bor base fresh σ').μ r = y'.μ i := back_μ hv
      rcases iv_cases F.L hv with hn | ⟨hb, _⟩
      case inr => exact .ofFree (F.isFree hb).1
      rcases nm_cases hn with ⟨_, hi⟩ | ⟨hi, rfl, hh⟩
      case inr =>
        -- an element of a pool that was handed down
        have hl : (x.loc loc bor).obj r = x.obj r := by
          rw [loc_obj F.L hn, obj_virt x hi]
          rcases elem_box (x.obj (r % 64)) (r / 64 - 1) with e | ⟨t, d, e⟩ <;> rw [e] <;> rfl
        have hy : (x.back y' loc bor base fresh σ').obj r = y'.obj r := by
          rw [hob, obj_virt y' hi]
          rcases elem_box (y'.obj (r % 64)) (r / 64 - 1) with e | ⟨t, d, e⟩ <;> rw [e] <;> rfl
        have hbox : x.obj r = .free ∨ ∃ t d, x.obj r = .box (.dat true t d) := by rw [obj_virt x hi]; exact elem_box _ _
        have hybox : y'.obj r = .free ∨ ∃ t d, y'.obj r = .box (.dat true t d) := by rw [obj_virt y' hi]; exact elem_box _ _
        rcases hbox with e | ⟨t, d, e⟩
        · exact .ofFree e
        refine ⟨fun g p c k => ?_, fun g c k => ?_, fun g lo len ex c k => ?_, fun c k => ?_⟩
        · have k1 : PtrRel (x.loc loc bor) r g p c := by unfold PtrRel at k ⊢; rw [hl, loc_μ hn]; exact k
          have k2 := (G.keeps r).ptr _ _ _ k1
          unfold PtrRel at k2 ⊢; rw [hy, hmu]; exact k2
        all_goals
          have k1 : PtrRel (x.loc loc bor) r 0 [] (ptrTo ((x.μ r).getD default) 0) := by
            have hm := M.objs r
            rw [e] at hm
            obtain ⟨b, _, _, h1, _⟩ := hm
            unfold PtrRel; rw [hl, loc_μ hn, e]
            exact ⟨_, _, 0, h1, by unfold Sh.at; rfl, by rw [h1]; rfl⟩
          have k2 := (G.keeps r).ptr _ _ _ k1
          unfold PtrRel at k2
          rcases hybox with e2 | ⟨t2, d2, e2⟩
          · rw [e2] at k2; exact k2.elim
          first
            | (unfold SlcRel; rw [hy, e2]; trivial)
            | (unfold SubRel; rw [hy, e2]; trivial)
            | (unfold MapRel; rw [hy, e2]; trivial)
      have hf : findRef loc r = some i := findRef_nodup loc F.L.nodup i r hi
      have hkind := F.kind i r hi
      have hname : ∀ g, g = genOf (x.obj r) → locName loc (loc.map fun r => genOf (x.obj r)) r g = some (i, 0) := fun g hg => by
        unfold locName; rw [hf]; simp only [gens_at hi, hg, Nat.beq_refl, cond_true]
      have hback : backName loc (loc.map fun r => genOf (x.obj r)) base i 0 = some (r, genOf (x.obj r)) := by
        unfold backName; rw [hi]; simp only [gens_at hi, Nat.add_zero]
      have N1 := loc_names (x := x) (loc := loc) (bor := bor) F.L
      have N2 := back_names F
      refine ⟨fun g p c k => ?_, fun g c k => ?_, fun g lo len ex c k => ?_, fun c k => ?_⟩
      · cases ho : x.obj r with
        | box v =>
          have k0 : PtrRel x r 0 p c := by unfold PtrRel at k ⊢; rw [ho] at k ⊢; exact k
          have k1 := N2.ptr _ _ _ _ _ _ hback ((G.keeps i).ptr _ _ _ (N1.ptr _ _ _ _ _ _ (hname 0 (by rw [ho]; rfl)) k0))
          rw [ho] at hkind
          unfold PtrRel at k1 ⊢
          rw [hob] at k1 ⊢
          cases hy : y'.obj i with
          | box u => rw [hy] at k1; exact k1
          | dead => trivial
          | _ => rw [hy] at hkind; cases hkind
        | arr g' t xs =>
          have hk := k
          unfold PtrRel at hk; rw [ho] at hk
          by_cases hg : g = g'
          · have := N2.ptr _ _ _ _ _ _ hback ((G.keeps i).ptr _ _ _ (N1.ptr _ _ _ _ _ _ (hname g (by rw [ho]; exact hg)) k))
            rw [ho] at this; rw [hg]; exact this
          · rw [ho] at hkind
            unfold PtrRel
            rw [hob]
            cases hy : y'.obj i with
            | arr g2 t2 xs2 => simp only [backObj, ho, genOf]; exact ⟨by omega, fun e => absurd e (by omega)⟩
            | dead => trivial
            | _ => rw [hy] at hkind; cases hkind
        | map K V m bs clk =>
          rw [ho] at hkind
          unfold PtrRel; rw [hob]
          cases hy : y'.obj i with
          | map K2 V2 m2 => trivial
          | dead => trivial
          | _ => rw [hy] at hkind; cases hkind
        | iter v s l =>
          rw [ho] at hkind
          unfold PtrRel; rw [hob]
          cases hy : y'.obj i with
          | dead => trivial
          | _ => rw [hy] at hkind; cases hkind
        | vmap K m =>
          rw [ho] at hkind
          unfold PtrRel; rw [hob]
          cases hy : y'.obj i with
          | vmap K2 m2 => trivial
          | dead => trivial
          | _ => rw [hy] at hkind; cases hkind
        | pool t xs =>
          rw [ho] at hkind
          unfold PtrRel; rw [hob]
          cases hy : y'.obj i with
          | pool t2 xs2 => trivial
          | _ => rw [hy] at hkind; cases hkind
        | dead => have := F.live r (List.mem_of_getElem? hi); rw [ho] at this; cases this
        | free => have := F.live r (List.mem_of_getElem? hi); rw [ho] at this; cases this
      · cases ho : x.obj r with
        | arr g' t xs =>
          have hk := k
          unfold SlcRel at hk; rw [ho] at hk
          by_cases hg : g = g'
          · have := N2.slc _ _ _ _ _ hback ((G.keeps i).slc _ _ (N1.slc _ _ _ _ _ (hname g (by rw [ho]; exact hg)) k))
            rw [ho] at this; rw [hg]; exact this
          · rw [ho] at hkind
            unfold SlcRel
            rw [hob]
            cases hy : y'.obj i with
            | arr g2 t2 xs2 => simp only [backObj, ho, genOf]; exact ⟨by omega, fun e => absurd e (by omega)⟩
            | dead => trivial
            | _ => rw [hy] at hkind; cases hkind
        | dead => have := F.live r (List.mem_of_getElem? hi); rw [ho] at this; cases this
        | free => have := F.live r (List.mem_of_getElem? hi); rw [ho] at this; cases this
        | _ =>
          rw [ho] at hkind
          unfold SlcRel; rw [hob]
          cases hy : y'.obj i <;> rw [hy] at hkind <;> first | trivial | cases hkind
      · cases ho : x.obj r with
        | arr g' t xs =>
          have hk := k
          unfold SubRel at hk; rw [ho] at hk
          by_cases hg : g = g'
          · have := N2.sub _ _ _ _ _ _ _ _ hback ((G.keeps i).sub _ _ _ _ _ (N1.sub _ _ _ _ _ _ _ _ (hname g (by rw [ho]; exact hg)) k))
            rw [ho] at this; rw [hg]; exact this
          · rw [ho] at hkind
            unfold SubRel
            rw [hob]
            cases hy : y'.obj i with
            | arr g2 t2 xs2 => simp only [backObj, ho, genOf]; exact ⟨by omega, fun e => absurd e (by omega)⟩
            | dead => trivial
            | _ => rw [hy] at hkind; cases hkind
        | dead => have := F.live r (List.mem_of_getElem? hi); rw [ho] at this; cases this
        | free => have := F.live r (List.mem_of_getElem? hi); rw [ho] at this; cases this
        | _ =>
          rw [ho] at hkind
          unfold SubRel; rw [hob]
          cases hy : y'.obj i <;> rw [hy] at hkind <;> first | trivial | cases hkind
      · cases ho : x.obj r with
        | map K V m bs clk =>
          have := N2.map _ _ _ _ hback ((G.keeps i).map _ (N1.map _ _ _ _ (hname 0 (by rw [ho]; rfl)) k))
          exact this
        | vmap K m =>
          have := N2.map _ _ _ _ hback ((G.keeps i).map _ (N1.map _ _ _ _ (hname 0 (by rw [ho]; rfl)) k))
          exact this
        | dead => have := F.live r (List.mem_of_getElem? hi); rw [ho] at this; cases this
        | free => have := F.live r (List.mem_of_getElem? hi); rw [ho] at this; cases this
        | _ =>
          rw [ho] at hkind
          unfold MapRel; rw [hob]
          cases hy : y'.obj i <;> rw [hy] at hkind <;> first | trivial | cases hkind
    | none =>
      rcases F.objN r hv with hob | ⟨t, xs, ys, e1, e2, _⟩
      · refine .same hob (back_μ_none hv) fun a n hl ha hroom => ?_
        have h3 := (others r a hv hl ha).2.2
        unfold Am.Roomy at *
        show ∀ c e fr, y'.h a.block = _ → _
        rw [G.h]; simp only; rw [h3]
        rw [hh] at hroom; exact hroom
      · have e2 : (x.back y' loc bor base fresh σ').obj r = .pool t ys := e2
        refine ⟨fun g p c k => ?_, fun g c k => ?_, fun g lo len ex c k => ?_, fun c k => ?_⟩
        · unfold PtrRel; rw [e2]; trivial
        · unfold SlcRel; rw [e2]; trivial
        · unfold SubRel; rw [e2]; trivial
        · unfold MapRel; rw [e2]; trivial
  have hown : ∀ b, Owned (x.back y' loc bor base fresh σ') b → Owned x b ∨ w.heap.size ≤ b := by
    intro b h
    rcases owned_back F h with h | ⟨r, a, _, l, m, e⟩
    · rcases G.own b h with h | h
      · obtain ⟨r, a, _, l, m, e⟩ := own0 b h; exact .inl ⟨r, a, l, m, e⟩
      · exact .inr h
    · exact .inl ⟨r, a, l, m, e⟩
  have hnew : ∀ p b, (x.back y' loc bor base fresh σ').S p b → x.S p b ∨ Owned (x.loc loc bor) b ∨ w.heap.size ≤ b := by
    intro p b hb
    have hb : (if p = true then y'.S true b else if bor = [] then y'.S false b else x.S false b ∨ y'.S true b) := hb
    have ht : y'.S true b → x.S true b ∨ Owned (x.loc loc bor) b ∨ w.heap.size ≤ b := fun h => by
      rcases G.newS true b h with h | h
      · rcases h with h | ⟨h, _⟩
        · exact .inl h
        · cases h
      · exact .inr h
    cases p with
    | true => exact ht hb
    | false =>
      rw [if_neg (by simp)] at hb
      split at hb
      · rename_i hbor
        rcases G.newS false b hb with h | h
        · rcases h with h | ⟨_, r, hr, _⟩
          · exact .inl h
          · rw [hbor] at hr; cases hr
        · exact .inr h
      · rcases hb with hb | hb
        · exact .inl hb
        · rcases ht hb with h | h
          · exact .inl (M.sub b h)
          · exact .inr h
  have atSame : ∀ p, ¬ handed x loc p → y'.at_ p = x.at_ p := fun p hp => G.at_ p (by
    show decide (handed x loc p) = false
    exact decide_eq_false hp)
  -- a pool that was not handed down: its elements lie where they lay
  have poolN : ∀ r t (xs ys : List (Ty.den t)), x.iv loc base fresh r = none → x.obj r = .pool t xs → ys.length = xs.length → ObjRel (x.back y' loc bor base fresh σ') r (.pool t ys) := by
    intro r t xs ys hv ho hlen
    have h := M.objs r
    rw [ho] at h
    obtain ⟨h1, h2, h3, h4, h5⟩ := h
    have hnh : ¬ handed x loc r := fun hh => by rw [iv_nm F.L (nm_at F.L hh.1)] at hv; cases hv
    have ha : (x.back y' loc bor base fresh σ').at_ r = x.at_ r := atSame r hnh
    refine ⟨h1, h2, (back_μ_none hv).trans h3, fun j hj => ?_, fun j hj => by rw [ha]; exact h5 j (by omega)⟩
    obtain ⟨b, k1, k2⟩ := h4 j (by omega)
    refine ⟨b, by rw [ha]; exact k1, ?_⟩
    cases hvv : x.iv loc base fresh (virt r j) with
    | none => rw [back_μ_none hvv]; exact k2
    | some i =>
      rw [back_μ hvv]
      rcases iv_cases F.L hvv with hn | ⟨hb, _⟩
      · rcases nm_cases hn with ⟨_, hi⟩ | ⟨_, e, hh⟩
        · rw [back_elem G F (virt_ge r j) hi]; exact k2
        · rw [← e, virt_mod h2] at hh; exact (hnh hh).elim
      · have := (F.isFree hb).2; have := virt_ge r j; omega
  refine { mem := ⟨fun r => ?_, fun r1 r2 a1 a2 hne l1 l2 m1 m2 => ?_, fun p b hb => ?_, fun b hb => ?_, F.slen⟩, h := G.h, S := hS, pl := rfl, at_ := fun p hp => atSame p fun hh => (by have := M.objs p; cases ho : x.obj p <;> first | (rw [ho] at this; rw [this.1] at hp; cases hp) | (have := hh.2; rw [ho] at this; cases this)), keeps := keeps, os := G.os, tape := G.tape, output := G.output, size := G.size,
           frame := fun b hb ho => G.frame b hb fun h => ho (let ⟨r, a, _, l, m, e⟩ := own0 b h; ⟨r, a, l, m, e⟩), own := hown,
           newS := fun p b hb => (hnew p b hb).imp id fun h => h.imp (fun h => let ⟨r, a, _, l, m, e⟩ := own0 b h; ⟨r, a, l, m, e⟩) id }
  · -- the objects
    have fromY : ∀ i g0, x.iv loc base fresh r = some i → ObjRel (x.back y' loc bor base fresh σ') r (backObj (backName loc (loc.map fun r => genOf (x.obj r)) base) g0 (y'.obj i)) := by
      intro i g0 hv
      have hmu : (x.back y' loc bor base fresh σ').μ r = y'.μ i := back_μ hv
      have h := G.mem.objs i
      have hT : Same y'.h (y'.F true) (x.back y' loc bor base fresh σ').h ((x.back y' loc bor base fresh σ').F true) := ⟨fun b hb => ⟨hb, rfl⟩, fun _ _ _ h => h⟩
      cases ho : y'.obj i with
      | box v =>
        rw [ho] at h
        obtain ⟨b, c, e, h1, h2, h3, h4⟩ := h
        have hk : bor = [] ∨ v.kept = true := F.kept.imp id fun hk => by have := hk i; rw [ho] at this; exact this
        exact ⟨b, c, e, hmu.trans h1, h2, back_C G F hk h3, (refs_flat _ v).trans h4⟩
      | arr g t xs =>
        rw [ho] at h
        rcases h with ⟨h1, h2⟩ | ⟨b, o, c, e, css, h1, h2, h3, h4⟩
        · exact .inl ⟨hmu.trans h1, h2⟩
        · exact .inr ⟨b, o, c, e, css, hmu.trans h1, h2, h3.mono fun _ _ h => h.congr hT, h4⟩
      | map K V m bs clk =>
        rw [ho] at h
        obtain ⟨b, es, h1, h2, h3, h4⟩ := h
        have hV : ∀ {t : Ty} {d : t.den} {u : Value}, (AVal.dat true t d).V y' u → (AVal.dat true t d).V (x.back y' loc bor base fresh σ') u := fun {t d u} h => V_of_C (x := y') (v := .dat true t d) (v' := .dat true t d) rfl (fun cs hc => Ty.Rel.congr (S := y'.F true) (S' := (x.back y' loc bor base fresh σ').F true) hT t d cs hc) h
        exact ⟨b, es, hmu.trans h1, h2, h3.mono fun _ _ h => ⟨hV h.1, hV h.2⟩, h4⟩
      | iter v s l =>
        rw [ho] at h
        obtain ⟨b, m, h1, h2, h3, h4⟩ := h
        have hk : bor = [] ∨ v.kept = true := F.kept.imp id fun hk => by have := hk i; rw [ho] at this; exact this
        exact ⟨b, m, hmu.trans h1, h2, back_C G F hk h3, (refs_flat _ v).trans h4⟩
      | vmap K m =>
        rw [ho] at h
        obtain ⟨b, es, clk, h1, h2, h3⟩ := h
        have hV : ∀ {t : Ty} {d : t.den} {u : Value}, (AVal.dat true t d).V y' u → (AVal.dat true t d).V (x.back y' loc bor base fresh σ') u := fun {t d u} h => V_of_C (x := y') (v := .dat true t d) (v' := .dat true t d) rfl (fun cs hc => Ty.Rel.congr (S := y'.F true) (S' := (x.back y' loc bor base fresh σ').F true) hT t d cs hc) h
        refine ⟨b, es, clk, hmu.trans h1, h2, (h3.memL fun e c he h => ?_ : All2 (fun e c => VEntryRel (x.back y' loc bor base fresh σ') K (e.1, e.2.refs (backName loc (loc.map fun r => genOf (x.obj r)) base)) c) m es.toList).mapL fun _ _ h => h⟩
        refine ⟨hV h.1, V_of_C (refs_agg _ _) (fun cs hc => back_C G F ?_ hc) h.2⟩
        exact F.kept.imp id fun hk => by have := hk i; rw [ho] at this; exact List.all_eq_true.1 this e he
      | pool t xs =>
        rw [ho] at h
        obtain ⟨h1, h2, h3, h4, h5⟩ := h
        have hp : (y'.obj i).isPool = true := by rw [ho]; rfl
        rcases iv_cases F.L hv with hn | ⟨hb, e⟩
        case inr => rw [e, F.fr _ (by omega)] at hp; cases hp
        rcases nm_cases hn with ⟨_, hi⟩ | ⟨hi, _⟩
        case inr => rw [virt_pool y' hi] at hp; cases hp
        have hk := F.kind i r hi
        have hx : (x.obj r).isPool = true := by
          rw [ho] at hk
          cases hxr : x.obj r <;> first | rfl | (rw [hxr] at hk; cases hk)
        have e := F.L.pools _ _ hi hx
        subst e
        refine ⟨?_, h2, hmu.trans h3, fun j hj => ?_, h5⟩
        · have := M.objs r
          cases hxr : x.obj r <;> first | (rw [hxr] at this; exact this.1) | (rw [hxr] at hx; cases hx)
        · obtain ⟨b, k1, k2⟩ := h4 j hj
          refine ⟨b, k1, (back_μ (iv_nm F.L ?_)).trans k2⟩
          unfold Ctx.nm
          rw [if_neg (by have := virt_ge r j; omega), virt_mod h2, if_pos ⟨hi, hx⟩]
      | dead => trivial
      | free => trivial
    cases hv : x.iv loc base fresh r with
    | some i => rw [show (x.back y' loc bor base fresh σ').obj r = _ from F.objI r i hv]; exact fromY i _ hv
    | none =>
      rcases F.objN r hv with hob | ⟨t, xs, ys, e1, e2, e3⟩
      · rw [show (x.back y' loc bor base fresh σ').obj r = _ from hob]
        cases hpl : (x.obj r).isPool with
        | true =>
          cases ho : x.obj r with
          | pool t xs => exact poolN r t xs xs hv ho rfl
          | _ => rw [ho] at hpl; cases hpl
        | false =>
          refine ObjRel.congr hS keeps (back_μ_none hv) (fun a hl ha => ?_) (fun e => by rw [hpl] at e; cases e) (M.objs r)
          have h3 := (others r a hv hl ha).2.2
          show y'.h a.block = x.h a.block
          rw [G.h, hh]; exact h3
      · rw [show (x.back y' loc bor base fresh σ').obj r = _ from e2]; exact poolN r t xs ys hv e1 e3
  · -- they lie apart
    have side : ∀ r a, ((x.back y' loc bor base fresh σ').obj r).live = true → (x.back y' loc bor base fresh σ').μ r = some a →
        (∃ i, (y'.obj i).live = true ∧ y'.μ i = some a ∧ x.iv loc base fresh r = some i) ∨ (x.iv loc base fresh r = none ∧ (x.obj r).live = true ∧ x.μ r = some a) := by
      intro r a l m
      cases hv : x.iv loc base fresh r with
      | some i =>
        rw [show (x.back y' loc bor base fresh σ').obj r = _ from F.objI r i hv, backObj_live] at l
        rw [back_μ hv] at m
        exact .inl ⟨i, l, m, rfl⟩
      | none =>
        rw [back_μ_none hv] at m
        exact .inr ⟨rfl, back_live F hv l, m⟩
    rcases side r1 a1 l1 m1 with ⟨i1, p1, q1, n1⟩ | ⟨k1, p1, q1⟩
    · rcases side r2 a2 l2 m2 with ⟨i2, p2, q2, n2⟩ | ⟨k2, p2, q2⟩
      · refine G.mem.apart i1 i2 a1 a2 (fun e => ?_) p1 p2 q1 q2
        subst e
        exact hne (iv_inj F n1 n2)
      · exact fun e => (others r2 a2 k2 p2 q2).2.1 ⟨i1, a1, p1, q1, e⟩
    · rcases side r2 a2 l2 m2 with ⟨i2, p2, q2, n2⟩ | ⟨k2, p2, q2⟩
      · exact fun e => (others r1 a1 k1 p1 q1).2.1 ⟨i2, a2, p2, q2, e.symm⟩
      · exact M.apart r1 r2 a1 a2 hne p1 p2 q1 q2
  · -- what no one writes is no one's
    have hnotOwn : ¬ Owned (x.back y' loc bor base fresh σ') b ∧ (y'.h b).isSome = true := by
      have hb2 : (if p = true then y'.S true b else if bor = [] then y'.S false b else x.S false b ∨ y'.S true b) := hb
      have inY : ∀ q, y'.S q b → ¬ Owned y' b ∧ (y'.h b).isSome = true := fun q h => ⟨fun ⟨r, a, l, m, e⟩ => (G.mem.still q b h).2 r a l m e, (G.mem.still q b h).1⟩
      have outer : ¬ ∃ r a, x.iv loc base fresh r = none ∧ (x.obj r).live = true ∧ x.μ r = some a ∧ a.block = b := by
        rintro ⟨r, a, hr, hl, ha, e⟩
        rcases hnew p b hb with h | h | h
        · exact (M.still p b h).2 r a hl ha e
        · exact (others r a hr hl ha).1 (e ▸ h)
        · have := hlow _ (M.there hl ha); omega
      have fin : (∃ q, y'.S q b) ∨ x.S false b → ¬ Owned y' b ∧ (y'.h b).isSome = true := by
        rintro (⟨q, h⟩ | h)
        · exact inY q h
        · exact inY false (G.S false b (.inl h)).1
      have h := fin (by
        cases p with
        | true => exact .inl ⟨true, hb2⟩
        | false =>
          rw [if_neg (by simp)] at hb2
          split at hb2
          · exact .inl ⟨false, hb2⟩
          · rcases hb2 with hb2 | hb2
            · exact .inr hb2
            · exact .inl ⟨true, hb2⟩)
      exact ⟨fun ho => (owned_back F ho).elim h.1 outer, h.2⟩
    exact ⟨hnotOwn.2, fun r a l m e => hnotOwn.1 ⟨r, a, l, m, e⟩⟩
  · have hb : y'.S true b := hb
    show (if false = true then y'.S true b else if bor = [] then y'.S false b else x.S false b ∨ y'.S true b)
    rw [if_neg (by simp)]
    split
    · exact G.mem.sub b hb
    · exact .inr hb
end
end Go.Am

/- The abstract machine, seventeenth part: calls. -/
namespace Go.Am

/-- A function: what it answers, and what it leaves of the objects that it is handed. -/
abbrev Fun := (R : Type) → List AVal → List AObj → (AVal → List AObj → Option R) → Option R
abbrev Fns := FuncId → Option Fun

structure FunOk (P : Program) (f : FuncId) (F : Fun) : Prop where
  body : ∃ fn, P.funcs[f]? = some fn ∧ fn.body.isSome = true ∧ (fn.name == "runtime.NumGoroutine") = false
  run : ∀ (R : Type) (args : List AVal) (objs : List AObj) (k : AVal → List AObj → Option R) (z : R), F R args objs k = some z → ∃ ret objs', k ret objs' = some z ∧ (∀ (R' : Type) (k' : AVal → List AObj → Option R'), F R' args objs k' = k' ret objs') ∧
    ∀ (x : Ctx) (w : World) (vals : Array Value), Mem x → (x.h = fun b => w.heap[b]?) → x.σ = objs → All2 (fun v u => v.V x u) args vals.toList →
      Calls P f vals w fun e w' => ∃ v x', e = .returned v ∧ Goes x w x' w' ∧ x'.σ = objs' ∧ ret.V x' v

def FnsOk (P : Program) (fns : Fns) : Prop := ∀ f F, fns f = some F → FunOk P f F

/-- A value as data of a type, where rows of the call's own are lent; which. -/
def borrowTo (get : Nat → Option AObj) : (t : Ty) → AVal → Option (t.den × List Nat)
  | t, .dat _ t' d => if h : t' = t then some (h ▸ d, []) else none
  | .slice t, .slc r g => match get r with
    | some (.arr g' t' xs) => bif Nat.beq g g' then (if h : t' = t then some (h ▸ xs, [r]) else none) else none
    | _ => none
  | .slice t, .sub r g lo len _ => match get r with
    | some (.arr g' t' xs) => bif Nat.beq g g' then (if h : t' = t then some (h ▸ ((xs.drop lo).take len), [r]) else none) else none
    | _ => none
  | .slice _, .nils => some ([], [])
  | .pair a b, .pair u v => match borrowTo get a u, borrowTo get b v with
    | some (d, l), some (e, m) => some ((d, e), l ++ m)
    | _, _ => none
  | .one a, .one u => match borrowTo get a u with
    | some (d, l) => some (d, l)
    | none => none
  | _, _ => none

def lendK (get : Nat → Option AObj) : List (Option Ty) → List AVal → Option (List AVal × List Nat)
  | some t :: ts, v :: vs => match borrowTo get t v, lendK get ts vs with
    | some (d, b), some (vs', bs) => some (.dat false t d :: vs', b ++ bs)
    | _, _ => none
  | none :: ts, v :: vs => match lendK get ts vs with
    | some (vs', bs) => some (v.weak :: vs', bs)
    | none => none
  | [], [] => some ([], [])
  | [], v :: vs => match lendK get [] vs with
    | some (vs', bs) => some (v.weak :: vs', bs)
    | none => none
  | _ :: _, [] => none

def getAll (get : Nat → Option AObj) : List Nat → Option (List AObj)
  | [] => some []
  | r :: l => match get r, getAll get l with
    | some o, some os => some (o :: os)
    | _, _ => none

structure Ann where
  touch : List Nat := []
  base : Nat := 0
  ro : Bool := true
  loc : List Nat := []
  fresh : Nat := 0
  lend : List (Option Ty) := []
  mode : Nat := 0
  /-- which argument is an element of a pool that is handed down by itself, and the pool -/
  opened : Option (Nat × Nat) := none

def memB (l : List Nat) (r : Nat) : Bool := l.any (Nat.beq r ·)

def nodupB : List Nat → Bool
  | [] => true
  | r :: l => !memB l r && nodupB l

/-- Pools are handed down under their own names. -/
def poolsAt : List Nat → List AObj → Nat → Bool
  | r :: l, o :: os, i => (!o.isPool || Nat.beq r i) && poolsAt l os (i + 1)
  | _, _, _ => true

def callFits (get : Nat → Option AObj) (an : Ann) (objs : List AObj) (bor : List Nat) : Bool :=
  nodupB an.loc && objs.all AObj.live && (List.range an.fresh).all (fun j => match get (an.base + j) with | some .free => true | _ => false) &&
    bor.all (fun r => !memB an.loc r && (match get r with | some o => o.live | none => false)) && (Nat.blt objs.length 64 && poolsAt an.loc objs 0)

def leftFits (an : Ann) (objs objs' : List AObj) (bor : List Nat) (ret : AVal) : Bool :=
  Nat.beq objs'.length (objs.length + an.fresh) && (objs.zip objs').all (fun p => sameKind p.1 p.2) && (bor.isEmpty || (ret.kept && objs'.all AObj.kept)) && (objs'.drop objs.length).all fun o => !o.isPool

/-- A call, but for what becomes of the objects. -/
def callWith {R : Type} (an : Ann) (F : Fun) (loc : List Nat) (objs : List AObj) (args : List AVal) (bor : List Nat) (k : AVal → List AObj → Option R) : Option R :=
  F R args (objs.map (locObj (locName loc (objs.map genOf)))) fun ret objs' =>
    bif leftFits an objs objs' bor ret then
      k (ret.refs (backName loc (objs.map genOf) an.base)) ((List.range (objs.length + an.fresh)).map fun i => backObj (backName loc (objs.map genOf) an.base) ((objs.map genOf).getD i 0) (objs'.getD i .free))
    else none

/-- Which element of pool p a value refers to. -/
def prefIdx (p : Nat) : AVal → Option Nat
  | .dat _ t d => if h : t = .pref p then (h ▸ d : (Ty.pref p).den) else none
  | _ => none

theorem prefIdx_some {p j : Nat} {v : AVal} (h : prefIdx p v = some j) : ∃ own, v = .dat own (.pref p) (some j) := by
  unfold prefIdx at h
  split at h
  · rename_i own t d
    split at h
    · rename_i ht
      subst ht
      exact ⟨own, by rw [show d = some j from h]⟩
    · cases h
  · cases h

/-- A call of which an argument is an element of a pool. -/
def actOpen {R : Type} (get : Nat → Option AObj) (an : Ann) (ai p : Nat) (F : Fun) (args : List AVal) (k : AVal → Ups → Option R) : Option R :=
  match args[ai]? with
  | some v => match prefIdx p v with
   | some j => match get p with
    | some (.pool t xs) => match xs[j]? with
      | some d => match getAll get an.loc, lendK get an.lend (args.set ai .nilp) with
        | some objs, some (args1, bor) => bif callFits get an objs bor && !memB an.loc p then
            callWith an F (an.loc ++ [virt p j]) (objs ++ [AObj.box (.dat true t d)]) ((args1.map (AVal.refs (locName (an.loc ++ [virt p j]) ((objs ++ [AObj.box (.dat true t d)]).map genOf)))).set ai (.ptr objs.length 0 [])) bor fun ret os =>
              match os[objs.length]? with
              | some (.box (.dat true t' d')) => if h : t' = t then k ret ((an.loc ++ List.range' an.base an.fresh).zip (os.eraseIdx objs.length) ++ [(p, .pool t (xs.set j (h ▸ d')))]) else none
              | _ => none
          else none
        | _, _ => none
      | none => none
    | _ => none
   | none => none
  | none => none

def actCall {R : Type} (get : Nat → Option AObj) (an : Ann) (F : Fun) (args : List AVal) (k : AVal → Ups → Option R) : Option R :=
  match an.opened with
  | none => match getAll get an.loc, lendK get an.lend args with
    | some objs, some (args1, bor) => bif callFits get an objs bor then
        callWith an F an.loc objs (args1.map (AVal.refs (locName an.loc (objs.map genOf)))) bor fun ret os => k ret ((an.loc ++ List.range' an.base an.fresh).zip os)
      else none
    | _, _ => none
  | some (ai, p) => actOpen get an ai p F args k

section
variable {P : Program} {T : Tbl} {ρ : Operand → Option AVal} {get : Nat → Option AObj} {a : Act} {w : World} {x : Ctx} {R : Type} {loc bor : List Nat}

theorem memB_iff {l : List Nat} {r : Nat} : memB l r = true ↔ r ∈ l := by
  unfold memB
  rw [List.any_eq_true]
  constructor
  · rintro ⟨q, hq, h⟩; rw [Nat.eq_of_beq_eq_true h]; exact hq
  · intro h; exact ⟨r, h, Nat.beq_refl r⟩

theorem nodupB_iff : ∀ {l : List Nat}, nodupB l = true → l.Nodup := by
  intro l
  induction l with
  | nil => intro _; exact List.nodup_nil
  | cons r l ih =>
    intro h
    unfold nodupB at h
    rw [Bool.and_eq_true] at h
    rw [List.nodup_cons]
    exact ⟨(fun hm => by rw [memB_iff.2 hm] at h; cases h.1), ih h.2⟩

theorem getAll_get : ∀ {l : List Nat} {os : List AObj}, getAll get l = some os → All2 (fun r o => get r = some o) l os := by
  intro l
  induction l with
  | nil => intro os h; cases h; exact .nil
  | cons r l ih =>
    intro os h
    unfold getAll at h
    split at h
    · rename_i o os' h1 h2; cases h; exact .cons h1 (ih h2)
    · cases h

/-- A row of the call's own, as data that are lent. -/
theorem lent_row (M : Mem x) {r g' : Nat} {t : Ty} {xs : List t.den} (hobj : x.obj r = .arr g' t xs) {b o : Nat} (hμ : x.μ r = some ⟨b, o, none⟩) (hbor : r ∈ bor) :
    (x.loc loc bor).S false b ∧ ∃ css, Holds x.h b o css.flatten ∧ All2 (t.Rel (x.loc loc bor).h ((x.loc loc bor).F false)) xs css := by
  have hrel := M.objs r
  rw [hobj] at hrel
  rcases hrel with ⟨h1, _⟩ | ⟨b', o', c, e, css, h1, h2, h3, pre, post, h4, h5⟩
  · rw [h1] at hμ; cases hμ
  · rw [h1] at hμ; cases hμ
    refine ⟨.inr ⟨rfl, r, hbor, _, by rw [hobj]; rfl, h1, rfl⟩, css, ⟨c, e, (0, 0), h2, fun j v hv => ?_⟩, h3.mono fun _ _ h => Ty.Rel.congr (h := x.h) (S := x.F true) (h' := (x.loc loc bor).h) (S' := (x.loc loc bor).F false) ⟨fun b hb => ⟨Or.inl (M.sub b hb), rfl⟩, fun _ _ _ h => h⟩ _ _ _ h⟩
    have := all2_drop_get h4 j hv
    rw [h5] at this; exact this

theorem borrow_C (M : Mem x) (hobj : ∀ r ob, get r = some ob → x.σ[r]? = some ob) : ∀ (t : Ty) (v : AVal) (d : t.den) (bs : List Nat) (cs : List Value), borrowTo get t v = some (d, bs) → (∀ r ∈ bs, r ∈ bor) → v.C x cs → (AVal.dat false t d).C (x.loc loc bor) cs := by
  have hdat : ∀ (q : Bool) (t t' : Ty) (d' : t'.den) (d : t.den) (cs : List Value) (bs : List Nat), (if h : t' = t then some (h ▸ d', ([] : List Nat)) else none) = some (d, bs) → (AVal.dat q t' d').C x cs → (AVal.dat false t d).C (x.loc loc bor) cs := by
    intro q t t' d' d cs bs h hC
    split at h
    · rename_i ht
      subst ht
      cases h
      exact Ty.Rel.congr (h := x.h) (S := x.F q) (h' := (x.loc loc bor).h) (S' := (x.loc loc bor).F false) ⟨fun b hb => ⟨Or.inl (by cases q with | true => exact M.sub b hb | false => exact hb), rfl⟩, fun _ _ _ h => h⟩ _ _ _ hC
    · cases h
  intro t
  induction t with
  | slice t ih =>
    intro v d bs cs h hb hC
    cases v with
    | dat q t' d' => exact hdat q _ _ _ _ _ bs (by simpa only [borrowTo] using h) hC
    | slc r g =>
      simp only [borrowTo] at h
      split at h
      · rename_i g' t' xs hg
        obtain ⟨hgg, h⟩ := cond_some h
        split at h
        · rename_i ht
          subst ht
          cases h
          have hob := obj_of_get M (hobj r _ hg)
          obtain ⟨c, rfl, _, hr⟩ := hC
          unfold SlcRel at hr
          rw [hob] at hr
          have hr := hr.2 (Nat.eq_of_beq_eq_true hgg)
          have hrel := M.objs r
          rw [hob] at hrel
          rcases hrel with ⟨h1, h3⟩ | ⟨b, o, c', e, css, h1, _⟩
          · simp only [h1] at hr
            obtain ⟨b0, rfl⟩ := hr
            subst h3
            exact ⟨b0, 0, 0, rfl, rfl, Nat.le_refl _, fun _ => rfl, fun h => absurd h (Nat.lt_irrefl _)⟩
          · simp only [h1] at hr
            obtain ⟨cap, rfl, h5, _⟩ := hr
            obtain ⟨h6, css', h7, h8⟩ := lent_row (loc := loc) (bor := bor) M hob h1 (hb r (by simp))
            exact ⟨some ⟨b, o, none⟩, _, cap, rfl, rfl, h5, (fun e => by cases e), fun _ => ⟨b, o, rfl, h6, css', h7, h8⟩⟩
        · cases h
      · cases h
    | sub r g lo len ex =>
      simp only [borrowTo] at h
      split at h
      · rename_i g' t' xs hg
        obtain ⟨hgg, h⟩ := cond_some h
        split at h
        · rename_i ht
          subst ht
          cases h
          have hob := obj_of_get M (hobj r _ hg)
          obtain ⟨c, rfl, _, hr⟩ := hC
          unfold SubRel at hr
          rw [hob] at hr
          obtain ⟨hle, base, cap, rfl, h5, _, _, h6, h7⟩ := hr.2 (Nat.eq_of_beq_eq_true hgg)
          have hlen : ((xs.drop lo).take len).length = len := by rw [List.length_take, List.length_drop]; omega
          refine ⟨base, len, cap, rfl, hlen.symm, h5, h6, fun hp => ?_⟩
          cases base with
          | none => have := h6 rfl; omega
          | some b1 =>
            obtain ⟨a0, h8, h10, _⟩ := h7 b1 rfl (by omega)
            have hrel := M.objs r
            rw [hob] at hrel
            rcases hrel with ⟨h1, h3⟩ | ⟨b, o, c', e, css, h1, _⟩
            · rw [h1] at h8; cases h8
            · rw [h1] at h8; cases h8
              rw [add_mk] at h10; subst h10
              obtain ⟨h6, css', ⟨c2, e2, fr2, h11, h12⟩, h8⟩ := lent_row (loc := loc) (bor := bor) M hob h1 (hb r (by simp))
              have hle2 : (css'.take lo).flatten.length = lo * t'.size := by
                rw [flatten_length (n := t'.size) (fun c hc => h8.lengths c (List.mem_of_mem_take hc)), List.length_take, Nat.min_eq_left (by rw [← h8.1]; omega)]
              refine ⟨b, _, rfl, h6, (css'.drop lo).take len, ⟨c2, e2, fr2, h11, fun j v hv => ?_⟩, ⟨by simp [List.length_take, List.length_drop, h8.1], fun i u v hu hv => ?_⟩⟩
              · have := h12 (lo * t'.size + j) v (by
                  have e3 : css'.flatten = (css'.take lo).flatten ++ (((css'.drop lo).take len).flatten ++ ((css'.drop lo).drop len).flatten) := by
                    rw [← List.flatten_append, List.take_append_drop, ← List.flatten_append, List.take_append_drop]
                  rw [e3, List.getElem?_append_right (by omega), hle2, show lo * t'.size + j - lo * t'.size = j by omega, List.getElem?_append_left (List.getElem?_eq_some_iff.1 hv).1]; exact hv)
                rw [← this]; congr 1; omega
              · rw [List.getElem?_take] at hu hv
                split at hu
                · rename_i hi
                  rw [if_pos hi] at hv
                  rw [List.getElem?_drop] at hu hv
                  exact h8.2 _ u v hu hv
                · cases hu
        · cases h
      · cases h
    | nils =>
      simp only [borrowTo, Option.some.injEq, Prod.mk.injEq] at h
      obtain ⟨rfl, _⟩ := h
      obtain ⟨b0, rfl⟩ := hC
      exact ⟨b0, 0, 0, rfl, rfl, Nat.le_refl _, fun _ => rfl, fun h => absurd h (Nat.lt_irrefl _)⟩
    | _ => simp only [borrowTo] at h; cases h
  | pair ta tb iha ihb =>
    intro v d bs cs h hb hC
    cases v with
    | dat q t' d' => exact hdat q _ _ _ _ _ bs (by simpa only [borrowTo] using h) hC
    | pair u v =>
      simp only [borrowTo] at h
      split at h
      · rename_i d1 l e1 m h1 h2
        cases h
        obtain ⟨c1, c2, rfl, k1, k2⟩ := hC
        exact ⟨c1, c2, rfl, iha u d1 l c1 h1 (fun r hr => hb r (by simp [hr])) k1, ihb v e1 m c2 h2 (fun r hr => hb r (by simp [hr])) k2⟩
      · cases h
    | _ => simp only [borrowTo] at h; cases h
  | one t ih =>
    intro v d bs cs h hb hC
    cases v with
    | dat q t' d' => exact hdat q _ _ _ _ _ bs (by simpa only [borrowTo] using h) hC
    | one u =>
      simp only [borrowTo] at h
      split at h
      · rename_i d1 l h1
        cases h
        exact ih u _ _ cs h1 hb hC
      · cases h
    | _ => simp only [borrowTo] at h; cases h
  | _ =>
    intro v d bs cs h hb hC
    cases v with
    | dat q t' d' => exact hdat q _ _ _ _ _ bs (by simpa only [borrowTo] using h) hC
    | _ => simp only [borrowTo] at h; cases h

theorem borrow_low (M : Mem x) (hobj : ∀ r ob, get r = some ob → x.σ[r]? = some ob) : ∀ (t : Ty) (v : AVal) (d : t.den) (bs : List Nat), borrowTo get t v = some (d, bs) → ∀ r ∈ bs, r < 64 := by
  intro t
  have hdat : ∀ (t t' : Ty) (d' : t'.den) (d : t.den) (bs : List Nat), (if h : t' = t then some (h ▸ d', ([] : List Nat)) else none) = some (d, bs) → ∀ r ∈ bs, r < 64 := by
    intro t t' d' d bs h r hr
    split at h
    · cases h; cases hr
    · cases h
  induction t with
  | slice t ih =>
    intro v d bs h
    cases v with
    | dat q t' d' => exact hdat _ _ _ _ bs (by simpa only [borrowTo] using h)
    | slc r g =>
      simp only [borrowTo] at h
      split at h
      · rename_i g' t' xs hg
        obtain ⟨_, h⟩ := cond_some h
        split at h
        · cases h; intro r' hr'; simp at hr'; subst hr'; exact M.low (hobj _ _ hg)
        · cases h
      · cases h
    | sub r g lo len ex =>
      simp only [borrowTo] at h
      split at h
      · rename_i g' t' xs hg
        obtain ⟨_, h⟩ := cond_some h
        split at h
        · cases h; intro r' hr'; simp at hr'; subst hr'; exact M.low (hobj _ _ hg)
        · cases h
      · cases h
    | nils => simp only [borrowTo, Option.some.injEq, Prod.mk.injEq] at h; obtain ⟨_, rfl⟩ := h; intro r hr; cases hr
    | _ => simp only [borrowTo] at h; cases h
  | pair ta tb iha ihb =>
    intro v d bs h
    cases v with
    | dat q t' d' => exact hdat _ _ _ _ bs (by simpa only [borrowTo] using h)
    | pair u v =>
      simp only [borrowTo] at h
      split at h
      · rename_i d1 l e1 m h1 h2
        cases h
        intro r hr
        rcases List.mem_append.1 hr with hr | hr
        · exact iha _ _ _ h1 r hr
        · exact ihb _ _ _ h2 r hr
      · cases h
    | _ => simp only [borrowTo] at h; cases h
  | one t ih =>
    intro v d bs h
    cases v with
    | dat q t' d' => exact hdat _ _ _ _ bs (by simpa only [borrowTo] using h)
    | one u =>
      simp only [borrowTo] at h
      split at h
      · rename_i d1 l h1; cases h; exact ih _ _ _ h1
      · cases h
    | _ => simp only [borrowTo] at h; cases h
  | _ =>
    intro v d bs h
    cases v with
    | dat q t' d' => exact hdat _ _ _ _ bs (by simpa only [borrowTo] using h)
    | _ => simp only [borrowTo] at h; cases h

theorem lend_low (M : Mem x) (hobj : ∀ r ob, get r = some ob → x.σ[r]? = some ob) : ∀ (ts : List (Option Ty)) (vs args : List AVal) (bs : List Nat), lendK get ts vs = some (args, bs) → ∀ r ∈ bs, r < 64 := by
  intro ts
  induction ts with
  | nil =>
    intro vs
    induction vs with
    | nil => intro args bs h; simp only [lendK, Option.some.injEq, Prod.mk.injEq] at h; obtain ⟨_, rfl⟩ := h; intro r hr; cases hr
    | cons v vs ih =>
      intro args bs h
      unfold lendK at h
      split at h
      · rename_i vs' bs' he; cases h; exact ih _ _ he
      · cases h
  | cons t ts ih =>
    intro vs args bs h
    cases vs with
    | nil => cases t <;> cases h
    | cons v vs =>
      cases t with
      | none =>
        unfold lendK at h
        split at h
        · rename_i vs' bs' he; cases h; exact ih vs _ _ he
        · cases h
      | some t =>
        unfold lendK at h
        split at h
        · rename_i d b vs' bs' h3 h4
          cases h
          intro r hr
          rcases List.mem_append.1 hr with hr | hr
          · exact borrow_low M hobj _ _ _ _ h3 r hr
          · exact ih vs _ _ h4 r hr
        · cases h
end
end Go.Am

/- The abstract machine, eighteenth part: that a call does what the machine says. -/
namespace Go.Am

/-- The values of a chain. -/
def AVal.list : AVal → Option (List AVal)
  | .nil => some []
  | .cons a b => match b.list with | some l => some (a :: l) | none => none
  | _ => none

/-- What a function gets: its first arguments, those of the call, what it has caught. -/
def AVal.given (caps : AVal) (args : List AVal) : Option (List AVal) := match caps with
  | .tup w => match w.list with | some l => some (l ++ args) | none => none
  | c => match c.list with | some l => some (args ++ l) | none => none

section
variable {P : Program} {T : Tbl} {ρ : Operand → Option AVal} {get : Nat → Option AObj} {a : Act} {w : World} {x : Ctx} {R : Type} {loc bor : List Nat}

theorem list_V : ∀ {caps : AVal} {l : List AVal} {vs : List Value}, caps.list = some l → caps.C x vs → All2 (fun v u => v.V x u) l vs := by
  intro caps
  induction caps with
  | nil => intro l vs h hc; cases h; have : vs = [] := hc; subst this; exact .nil
  | cons a b iha ihb =>
    intro l vs h hc
    unfold AVal.list at h
    split at h
    · rename_i l' hl
      cases h
      obtain ⟨u, us, rfl, h1, h2⟩ := hc
      exact .cons h1 (ihb hl h2)
    · cases h
  | _ => intro l vs h; cases h

theorem borrow_agg : ∀ (t : Ty) (v : AVal) (d : t.den) (bs : List Nat), borrowTo get t v = some (d, bs) → t.agg = v.agg := by
  intro t v d bs h
  have hdat : ∀ (q : Bool) (t t' : Ty) (d' : t'.den) (d : t.den), (if h : t' = t then some (h ▸ d', ([] : List Nat)) else none) = some (d, bs) → t.agg = (AVal.dat q t' d').agg := by
    intro q t t' d' d h
    split at h
    · rename_i ht; subst ht; rfl
    · cases h
  cases t <;> cases v <;> first
    | (exact hdat _ _ _ _ _ (by simpa only [borrowTo] using h))
    | rfl
    | (simp only [borrowTo] at h; cases h)

theorem borrow_V (M : Mem x) (hobj : ∀ r ob, get r = some ob → x.σ[r]? = some ob) {t : Ty} {v : AVal} {d : t.den} {bs : List Nat} {u : Value} (h : borrowTo get t v = some (d, bs)) (hb : ∀ r ∈ bs, r ∈ bor) (hv : v.V x u) :
    (AVal.dat false t d).V (x.loc loc bor) u :=
  V_of_C (v := v) (v' := .dat false t d) (borrow_agg t v d bs h) (fun cs hc => borrow_C M hobj t v d bs cs h hb hc) hv

theorem lend_V (M : Mem x) (hobj : ∀ r ob, get r = some ob → x.σ[r]? = some ob) {f : Nat → Nat → Option (Nat × Nat)} (N : Names x (x.loc loc bor) f) : ∀ (ts : List (Option Ty)) (vs args : List AVal) (bs : List Nat) (us : List Value), lendK get ts vs = some (args, bs) → (∀ r ∈ bs, r ∈ bor) →
    All2 (fun v u => v.V x u) vs us → All2 (fun v u => v.V (x.loc loc bor) u) (args.map (AVal.refs f)) us := by
  have weakV : ∀ (v : AVal) (u : Value), v.V x u → (v.weak.refs f).V (x.loc loc bor) u := fun v u h =>
    refs_V loc_S N (V_of_C (weak_agg v) (weak_C v) h)
  intro ts
  induction ts with
  | nil =>
    intro vs
    induction vs with
    | nil => intro args bs us h _ hA; simp only [lendK, Option.some.injEq, Prod.mk.injEq] at h; obtain ⟨rfl, rfl⟩ := h; rw [hA.nil_inv]; exact .nil
    | cons v vs ih =>
      intro args bs us h hb hA
      obtain ⟨u, us', rfl, h1, h2⟩ := hA.cons_inv
      unfold lendK at h
      split at h
      · rename_i vs' bs' he; cases h; exact .cons (weakV v u h1) (ih _ _ us' he hb h2)
      · cases h
  | cons t ts ih =>
    intro vs args bs us h hb hA
    cases vs with
    | nil => cases t <;> cases h
    | cons v vs =>
      obtain ⟨u, us', rfl, h1, h2⟩ := hA.cons_inv
      cases t with
      | none =>
        unfold lendK at h
        split at h
        · rename_i vs' bs' he; cases h; exact .cons (weakV v u h1) (ih vs _ _ us' he hb h2)
        · cases h
      | some t =>
        unfold lendK at h
        split at h
        · rename_i d b vs' bs' h3 h4
          cases h
          exact .cons (borrow_V M hobj h3 (fun r hr => hb r (by simp [hr])) h1) (ih vs _ _ us' h4 (fun r hr => hb r (by simp [hr])) h2)
        · cases h

theorem getAll_obj (M : Mem x) (hobj : ∀ r ob, get r = some ob → x.σ[r]? = some ob) {l : List Nat} {os : List AObj} (h : getAll get l = some os) : os = l.map x.obj := by
  have A := getAll_get h
  apply List.ext_getElem?
  intro i
  rw [List.getElem?_map]
  cases hi : l[i]? with
  | none =>
    have : os[i]? = none := List.getElem?_eq_none (by rw [← A.1]; exact List.getElem?_eq_none_iff.1 hi)
    rw [this]; rfl
  | some r =>
    obtain ⟨o, h1, h2⟩ := A.get hi
    rw [h1, Option.map_some, obj_of_get M (hobj r o h2)]

theorem poolsAt_inv : ∀ (l : List Nat) (os : List AObj) (n : Nat), poolsAt l os n = true → ∀ i r o, l[i]? = some r → os[i]? = some o → o.isPool = true → r = n + i := by
  intro l
  induction l with
  | nil => intro os n _ i r o h; simp at h
  | cons r0 l ih =>
    intro os n h i r o h1 h2 h3
    cases os with
    | nil => simp at h2
    | cons o0 os =>
      unfold poolsAt at h
      rw [Bool.and_eq_true] at h
      cases i with
      | zero =>
        simp at h1 h2; subst h1; subst h2
        have := h.1
        rw [h3] at this
        exact Nat.eq_of_beq_eq_true (by simpa using this)
      | succ i => rw [ih os (n + 1) h.2 i r o (by simpa using h1) (by simpa using h2) h3]; omega

theorem applyUps_length : ∀ (ups : Ups) (σ : List AObj), (applyUps σ ups).length = σ.length := by
  intro ups
  induction ups with
  | nil => intro σ; rfl
  | cons p ups ih => intro σ; obtain ⟨r, o⟩ := p; show (applyUps (σ.set r o) ups).length = _; rw [ih, List.length_set]

theorem applyUps_get (ups : Ups) (σ : List AObj) (h1 : (ups.map (·.1)).Nodup) (h2 : ∀ p ∈ ups, p.1 < σ.length) (r : Nat) : (applyUps σ ups).getD r .free = (lookUp ups r).getD (σ.getD r .free) := applyUps_obj ups σ h1 h2 r

theorem lookUp_append : ∀ (u v : Ups) (r : Nat), lookUp (u ++ v) r = (match lookUp u r with | some o => some o | none => lookUp v r) := by
  intro u
  induction u with
  | nil => intro v r; rfl
  | cons p u ih =>
    intro v r
    show (if r = p.1 then some p.2 else lookUp (u ++ v) r) = (match (if r = p.1 then some p.2 else lookUp u r) with | some o => some o | none => lookUp v r)
    by_cases e : r = p.1
    · rw [if_pos e, if_pos e]
    · rw [if_neg e, if_neg e]; exact ih v r

theorem backObj_pool (bk : Nat → Nat → Option (Nat × Nat)) (g : Nat) (o : AObj) : (backObj bk g o).isPool = o.isPool := by cases o <;> rfl
theorem kind_pool {o o' : AObj} (h : sameKind o o' = true) : o'.isPool = o.isPool := by
  cases o <;> cases o' <;> first | rfl | cases h

/-- The elements of pools behind a call. -/
theorem virt_back {loc : List Nat} (L : LocOk x loc) {σ' objs' : List AObj} {bk : Nat → Nat → Option (Nat × Nat)} {g : Nat} {r : Nat} (hr : 64 ≤ r)
    (hkind : ∀ i r, loc[i]? = some r → sameKind (x.obj r) (objs'.getD i .free) = true)
    (hq : (∃ i, loc[i]? = some (r % 64) ∧ σ'.getD (r % 64) .free = backObj bk g (objs'.getD i .free)) ∨ ((σ'.getD (r % 64) .free).isPool = false ∧ (x.obj (r % 64)).isPool = false) ∨ ((∀ i : Nat, loc[i]? ≠ some (r % 64)) ∧ σ'.getD (r % 64) .free = x.obj (r % 64))) :
    (handed x loc (r % 64) → ∀ g', objAt σ' r = backObj bk g' (objAt objs' r)) ∧ (¬ handed x loc (r % 64) → objAt σ' r = x.obj r) := by
  have hσ : ∀ σ : List AObj, objAt σ r = elemAt (σ.getD (r % 64) .free) (r / 64 - 1) := fun σ => by unfold objAt; rw [if_neg (by omega)]
  have hself : ∀ (o : AObj) (j g' : Nat), backObj bk g' (elemAt o j) = elemAt o j := fun o j g' => by
    rcases elem_box o j with e | ⟨t, d, e⟩ <;> rw [e] <;> rfl
  refine ⟨fun hh g' => ?_, fun hh => ?_⟩
  · rcases hq with ⟨i, h1, h2⟩ | ⟨_, h⟩ | ⟨h, _⟩
    · have e : i = r % 64 := by
        have e1 := findRef_nodup loc L.nodup _ _ h1
        have e2 := findRef_nodup loc L.nodup _ _ hh.1
        rw [e1] at e2; cases e2; rfl
      subst e
      have hk := kind_pool (hkind _ _ h1)
      rw [hh.2] at hk
      rw [hσ, hσ, h2, hself]
      cases ho : objs'.getD (r % 64) .free <;> first | rfl | (rw [ho] at hk; cases hk)
    · rw [hh.2] at h; cases h
    · exact (h _ hh.1).elim
  · rw [hσ, obj_virt x hr]
    rcases hq with ⟨i, h1, h2⟩ | ⟨h1, h2⟩ | ⟨_, h⟩
    · have hx : (x.obj (r % 64)).isPool = false := by
        cases hx : (x.obj (r % 64)).isPool with
        | false => rfl
        | true =>
          have e := L.pools _ _ h1 hx
          rw [← e] at h1
          exact (hh ⟨h1, hx⟩).elim
      rw [h2, elemAt_not (by rw [backObj_pool, kind_pool (hkind _ _ h1), hx]), elemAt_not hx]
    · rw [elemAt_not h1, elemAt_not h2]
    · rw [h]

/-- A call, from what is handed down. -/
theorem call_core (H : Meets P T ρ get a w x) {o : Oper} {fo : Operand} {argos : Array Operand} {ats : Array TypeId} (ho : o.op = .call { callee := .value fo, args := argos, argTypes := ats }) {f : FuncId} {caps : AVal} {args all : List AVal} {F : Fun} (hF : FunOk P f F)
    (hf : ρ fo = some (.fn f caps)) (hcaps : caps.given args = some all) (hargs : argos.toList.mapM ρ = some args) (an : Ann) {loc bor : List Nat} {objs : List AObj} {args2 : List AVal}
    (L : LocOk x loc) (hobjs : objs = loc.map x.obj) (hlive : ∀ r ∈ loc, (x.obj r).live = true) (hfree : ∀ j, j < an.fresh → x.σ[an.base + j]? = some .free) (hlent : ∀ r ∈ bor, (r ∉ loc ∧ (x.obj r).live = true) ∧ r < 64)
    (hall : ∀ ALL, All2 (fun v u => v.V x u) all ALL → All2 (fun v u => v.V (x.loc loc bor) u) args2 ALL) {k : AVal → List AObj → Option R} {z : R} (hk : callWith an F loc objs args2 bor k = some z) :
    ∃ (ret : AVal) (objs' : List AObj), k (ret.refs (backName loc (loc.map fun r => genOf (x.obj r)) an.base)) ((List.range (loc.length + an.fresh)).map fun i => backObj (backName loc (loc.map fun r => genOf (x.obj r)) an.base) ((loc.map fun r => genOf (x.obj r)).getD i 0) (objs'.getD i .free)) = some z ∧
      objs'.length = loc.length + an.fresh ∧ (∀ i r, loc[i]? = some r → sameKind (x.obj r) (objs'.getD i .free) = true) ∧ (∀ j, j < an.fresh → (objs'.getD (loc.length + j) .free).isPool = false) ∧
      ∀ ups, (loc.length + an.fresh ≤ 64 → (∀ r i, x.iv loc an.base an.fresh r = some i → objAt (applyUps x.σ ups) r = backObj (backName loc (loc.map fun r => genOf (x.obj r)) an.base) (genOf (x.obj r)) (objAt objs' i)) ∧
        (∀ r, x.iv loc an.base an.fresh r = none → objAt (applyUps x.σ ups) r = x.obj r ∨ ∃ t xs ys, x.obj r = .pool t xs ∧ objAt (applyUps x.σ ups) r = .pool t ys ∧ ys.length = xs.length)) →
        ActOk P o a w x (ret.refs (backName loc (loc.map fun r => genOf (x.obj r)) an.base)) ups := by
  have hgens : objs.map genOf = loc.map fun r => genOf (x.obj r) := by rw [hobjs, List.map_map]; rfl
  have hlenO : objs.length = loc.length := by rw [hobjs, List.length_map]
  unfold callWith at hk
  rw [hgens, hlenO] at hk
  obtain ⟨ret, objs', hk2, _, hcall⟩ := hF.run _ _ _ _ _ hk
  obtain ⟨hleft, hk3⟩ := cond_some hk2
  unfold leftFits at hleft
  rw [Bool.and_eq_true, Bool.and_eq_true, Bool.and_eq_true, hlenO] at hleft
  obtain ⟨⟨⟨hlen, hkind⟩, hkept⟩, hnop⟩ := hleft
  have hlen' := Nat.eq_of_beq_eq_true hlen
  have hkindL : ∀ i r, loc[i]? = some r → sameKind (x.obj r) (objs'.getD i .free) = true := fun i r hi => by
    have h1 : objs[i]? = some (x.obj r) := by rw [hobjs, List.getElem?_map, hi]; rfl
    have hil : i < objs'.length := by have := (List.getElem?_eq_some_iff.1 hi).1; omega
    have h2 : objs'[i]? = some (objs'.getD i .free) := by rw [List.getD_eq_getElem?_getD, List.getElem?_eq_getElem hil]; rfl
    have h3 : (objs.zip objs')[i]? = some (x.obj r, objs'.getD i .free) := by rw [List.getElem?_zip_eq_some]; exact ⟨h1, h2⟩
    exact List.all_eq_true.1 hkind _ (List.mem_of_getElem? h3)
  have hnopL : ∀ j, j < an.fresh → (objs'.getD (loc.length + j) .free).isPool = false := fun j hj => by
    have hil : loc.length + j < objs'.length := by omega
    have h2 : (objs'.drop loc.length)[j]? = some (objs'.getD (loc.length + j) .free) := by rw [List.getElem?_drop, List.getD_eq_getElem?_getD, List.getElem?_eq_getElem hil]; rfl
    simpa using List.all_eq_true.1 hnop _ (List.mem_of_getElem? h2)
  refine ⟨ret, objs', hk3, hlen', hkindL, hnopL, fun ups hups => ?_⟩
  -- the arguments' values
  obtain ⟨vs0, e0, hcapV⟩ := (show (AVal.fn f caps).C x [a.eval fo] from H.val _ _ hf)
  simp only [List.cons.injEq, and_true] at e0
  have hargV : All2 (fun v u => v.V x u) args (argos.toList.map a.eval) := by
    have : ∀ (os : List Operand) (vs : List AVal), os.mapM ρ = some vs → All2 (fun v u => v.V x u) vs (os.map a.eval) := by
      intro os
      induction os with
      | nil => intro vs h; simp at h; subst h; exact .nil
      | cons o os ih =>
        intro vs h
        rw [List.mapM_cons] at h
        simp only [bind, Option.bind_eq_some_iff, pure, Option.some.injEq] at h
        obtain ⟨v, hv, vs', h1, rfl⟩ := h
        exact .cons (H.val _ _ hv) (ih _ h1)
    exact this _ _ hargs
  obtain ⟨ALL, hallV, hrun⟩ : ∃ ALL : List Value, All2 (fun v u => v.V x u) all ALL ∧ (execOp a.eval o).run P w = .ok (.enter f ALL.toArray) w := by
    obtain ⟨fn, hfn, hbody, hname⟩ := hF.body
    have hb : fn.body.isNone = false := by cases hbb : fn.body with | none => rw [hbb] at hbody; cases hbody | some c => rfl
    have run : ∀ us vs : List Value, a.eval fo = .func (.func f) us.toArray vs.toArray → (execOp a.eval o).run P w = .ok (.enter f (us ++ argos.toList.map a.eval ++ vs).toArray) w := by
      intro us vs e0
      simp only [execOp, ho, resolve, Deferred.ofValue, e0, Sem.run_bind, Sem.run_pure, Result.andThen_ok, invoke, callFunc, run_program, hfn, hname, hb, Bool.false_eq_true, if_false]
      simp
    cases htup : caps.isTup with
    | false =>
      rw [htup] at e0
      have hc : ∃ l, caps.list = some l ∧ args ++ l = all := by
        unfold AVal.given at hcaps
        cases caps <;> first
          | (cases htup; done)
          | (simp only at hcaps; split at hcaps
             · rename_i l hl; cases hcaps; exact ⟨l, hl, rfl⟩
             · cases hcaps)
      obtain ⟨l, hl, rfl⟩ := hc
      exact ⟨_, hargV.append (list_V hl hcapV), by simpa using run [] vs0 (by rw [e0]; rfl)⟩
    | true =>
      rw [htup] at e0
      cases caps <;> try (cases htup; done)
      rename_i wv
      obtain ⟨us, rfl, hus⟩ := hcapV
      unfold AVal.given at hcaps
      simp only at hcaps
      split at hcaps
      · rename_i l hl
        cases hcaps
        exact ⟨_, (list_V hl hus).append hargV, by simpa using run us [] (by rw [e0]; rfl)⟩
      · cases hcaps
  have hC := hcall (x.loc loc bor) w ALL.toArray (loc_mem H.mem L fun r hr => ⟨(hlent r hr).1.1, (hlent r hr).2⟩) H.h (by
    show loc.map _ = _
    rw [hobjs, List.map_map]; rfl) (by simpa using hall ALL hallV)
  intro next Q hnext
  unfold Oper.wp
  rw [hrun, Oper.upon_enter]
  refine hC.mono fun e w' h => ?_
  obtain ⟨v, y', rfl, G, hσ, hret⟩ := h
  have hyo : ∀ i, y'.obj i = objAt objs' i := fun i => by unfold Ctx.obj; rw [hσ]
  have htop : loc.length + an.fresh ≤ 64 := by have := G.mem.len; rw [hσ, hlen'] at this; exact this
  have hlow : ∀ i, i < loc.length + an.fresh → y'.obj i = objs'.getD i .free := fun i hi => by rw [hyo, objAt_low (by omega)]
  obtain ⟨hI, hN⟩ := hups htop
  have F' : CallFits x y' loc bor an.base an.fresh (applyUps x.σ ups) := {
    L := L
    mem := H.mem
    live := hlive
    free := hfree
    lent := hlent
    len := by rw [hσ]; exact hlen'
    top := htop
    kind := fun i r hi => by rw [hlow i (by have := (List.getElem?_eq_some_iff.1 hi).1; omega)]; exact hkindL i r hi
    fr := fun j hj => by rw [hlow _ (by omega)]; exact hnopL j hj
    kept := by
      rcases Bool.or_eq_true_iff.1 hkept with h | h
      · exact .inl (List.isEmpty_iff.1 h)
      · rw [Bool.and_eq_true] at h
        refine .inr fun i => ?_
        have hk0 : ∀ q, (objs'.getD q .free).kept = true := fun q => by
          rw [List.getD_eq_getElem?_getD]
          cases hi : objs'[q]? with
          | none => rfl
          | some ob => exact List.all_eq_true.1 h.2 ob (List.mem_of_getElem? hi)
        rw [hyo]
        unfold objAt
        split
        · exact hk0 i
        · rcases elem_box (objs'.getD (i % 64) .free) (i / 64 - 1) with e | ⟨t, d, e⟩ <;> rw [e] <;> rfl
    objI := fun r i h => by rw [hyo]; exact hI r i h
    objN := hN
    slen := by rw [applyUps_length]; exact H.mem.len }
  have hretk : bor = [] ∨ ret.kept = true := by
    rcases Bool.or_eq_true_iff.1 hkept with h | h
    · exact .inl (List.isEmpty_iff.1 h)
    · rw [Bool.and_eq_true] at h; exact .inr h.1
  exact hnext v w' (x.back y' loc bor an.base an.fresh (applyUps x.σ ups)) (call_goes H.mem H.h G F') rfl (V_of_C (refs_agg _ ret) (fun cs hc => back_C G F' hretk hc) hret)

theorem findRef_not {l : List Nat} {r : Nat} (h : findRef l r = none) (i : Nat) : l[i]? ≠ some r := fun e => findRef_none _ _ h (List.mem_of_getElem? e)

/-- What a call's annotation has been asked. -/
theorem callFits_inv (H : Meets P T ρ get a w x) {an : Ann} {objs : List AObj} {bor : List Nat} (hobjs : getAll get an.loc = some objs) (hfit : callFits get an objs bor = true) :
    LocOk x an.loc ∧ objs = an.loc.map x.obj ∧ (∀ r ∈ an.loc, r < x.σ.length ∧ r < 64) ∧ (∀ r ∈ an.loc, (x.obj r).live = true) ∧ (∀ j, j < an.fresh → x.σ[an.base + j]? = some .free) ∧ (∀ r ∈ bor, r ∉ an.loc ∧ (x.obj r).live = true) ∧ an.loc.length < 64 := by
  unfold callFits at hfit
  rw [Bool.and_eq_true, Bool.and_eq_true, Bool.and_eq_true, Bool.and_eq_true, Bool.and_eq_true] at hfit
  obtain ⟨⟨⟨⟨hnd, hlive⟩, hfree⟩, hbor⟩, hl64, hpool⟩ := hfit
  have hobjs' := getAll_obj H.mem H.obj hobjs
  have hgets := getAll_get hobjs
  have hin : ∀ r ∈ an.loc, r < x.σ.length ∧ r < 64 := fun r hr => by
    obtain ⟨i, hi, rfl⟩ := List.getElem_of_mem hr
    obtain ⟨o, _, h2⟩ := hgets.get (List.getElem?_eq_getElem hi)
    have := H.obj _ _ h2
    exact ⟨(List.getElem?_eq_some_iff.1 this).1, H.mem.low this⟩
  have hlen : an.loc.length < 64 := by
    have e : objs.length = an.loc.length := by rw [hobjs', List.length_map]
    rw [e] at hl64; simpa [Nat.blt_eq] using hl64
  refine ⟨⟨nodupB_iff hnd, Nat.le_of_lt hlen, fun i r hi hp => ?_, fun r hr h64 => by have := (hin r hr).2; omega⟩, hobjs', hin, fun r hr => ?_, fun j hj => ?_, fun r hr => ?_, hlen⟩
  · have := poolsAt_inv an.loc objs 0 hpool i r (x.obj r) hi (by rw [hobjs', List.getElem?_map, hi]; rfl) hp
    omega
  · rw [hobjs', List.all_map] at hlive
    exact List.all_eq_true.1 hlive r hr
  · have := List.all_eq_true.1 hfree j (List.mem_range.2 hj)
    split at this
    · rename_i hg; exact H.obj _ _ hg
    · cases this
  · have := List.all_eq_true.1 hbor r hr
    rw [Bool.and_eq_true] at this
    refine ⟨(fun h => by rw [memB_iff.2 h] at this; cases this.1), ?_⟩
    have h2 := this.2
    split at h2
    · rename_i ob hob; rw [obj_of_get H.mem (H.obj r ob hob)]; exact h2
    · cases h2

/-- Where nothing was handed down, nothing is new. -/
theorem iv_none {loc : List Nat} {base fresh r : Nat} (h : x.iv loc base fresh r = none) : findRef loc r = none ∧ ¬ (64 ≤ r ∧ handed x loc (r % 64)) ∧ ¬ (base ≤ r ∧ r < base + fresh) := by
  unfold Ctx.iv at h
  split at h
  · cases h
  · rename_i hf
    split at h
    · cases h
    · rename_i h1
      split at h
      · cases h
      · rename_i h2; exact ⟨hf, h1, h2⟩

theorem actCall_plain (H : Meets P T ρ get a w x) {o : Oper} {fo : Operand} {argos : Array Operand} {ats : Array TypeId} (ho : o.op = .call { callee := .value fo, args := argos, argTypes := ats }) {f : FuncId} {caps : AVal} {args all : List AVal} {F : Fun} (hF : FunOk P f F)
    (hf : ρ fo = some (.fn f caps)) (hcaps : caps.given args = some all) (hargs : argos.toList.mapM ρ = some args) (an : Ann) {k : AVal → Ups → Option R} {z : R} {objs : List AObj} {args1 : List AVal} {bor : List Nat}
    (hobjs : getAll get an.loc = some objs) (hlend : lendK get an.lend all = some (args1, bor)) (hfit : callFits get an objs bor = true)
    (hk : callWith an F an.loc objs (args1.map (AVal.refs (locName an.loc (objs.map genOf)))) bor (fun ret os => k ret ((an.loc ++ List.range' an.base an.fresh).zip os)) = some z) :
    ∃ u ups, k u ups = some z ∧ ActOk P o a w x u ups := by
  obtain ⟨L, hobjs', hin, hlive, hfree, hbor, hl64⟩ := callFits_inv H hobjs hfit
  have hgens : objs.map genOf = an.loc.map fun r => genOf (x.obj r) := by rw [hobjs', List.map_map]; rfl
  rw [hgens] at hk
  obtain ⟨ret, objs', hk3, hlen, hkind, hnop, hups⟩ := call_core H ho hF hf hcaps hargs an L hobjs' hlive hfree (fun r hr => ⟨hbor r hr, lend_low H.mem H.obj _ _ _ _ hlend r hr⟩)
    (fun ALL hA => lend_V (loc := an.loc) (bor := bor) H.mem H.obj (loc_names (x := x) (loc := an.loc) (bor := bor) L) an.lend all args1 bor _ hlend (fun r hr => hr) hA) hk
  refine ⟨_, _, hk3, hups _ fun htop => ?_⟩
  generalize hbk : backName an.loc (an.loc.map fun r => genOf (x.obj r)) an.base = bk
  have isFree : ∀ r, an.base ≤ r ∧ r < an.base + an.fresh → x.σ[r]? = some .free := fun r hr => by
    have := hfree (r - an.base) (by omega)
    rwa [show an.base + (r - an.base) = r by omega] at this
  have notLoc : ∀ r, an.base ≤ r ∧ r < an.base + an.fresh → findRef an.loc r = none := fun r hr => by
    cases hf : findRef an.loc r with
    | none => rfl
    | some j =>
      have h1 := hlive _ (List.mem_of_getElem? (findRef_get _ _ _ hf))
      rw [obj_of_get H.mem (isFree r hr)] at h1; cases h1
  have hnd : (an.loc ++ List.range' an.base an.fresh).Nodup := by
    rw [List.nodup_append]
    refine ⟨L.nodup, List.nodup_range', fun a ha b hb e => ?_⟩
    subst e
    rw [List.mem_range'_1] at hb
    exact findRef_none _ _ (notLoc a hb) ha
  have hlt : ∀ r ∈ an.loc ++ List.range' an.base an.fresh, r < x.σ.length := fun r hr => by
    rcases List.mem_append.1 hr with hr | hr
    · exact (hin r hr).1
    · rw [List.mem_range'_1] at hr
      exact (List.getElem?_eq_some_iff.1 (isFree r hr)).1
  generalize hos : ((List.range (an.loc.length + an.fresh)).map fun i => backObj bk ((an.loc.map fun r => genOf (x.obj r)).getD i 0) (objs'.getD i .free)) = os
  have hosl : (an.loc ++ List.range' an.base an.fresh).length = os.length := by rw [← hos]; simp
  have hosg : ∀ i, i < an.loc.length + an.fresh → os[i]? = some (backObj bk ((an.loc.map fun r => genOf (x.obj r)).getD i 0) (objs'.getD i .free)) := fun i hi => by
    rw [← hos, List.getElem?_map, List.getElem?_range hi]; rfl
  have hget : ∀ r, (applyUps x.σ ((an.loc ++ List.range' an.base an.fresh).zip os)).getD r .free = (lookUp ((an.loc ++ List.range' an.base an.fresh).zip os) r).getD (x.σ.getD r .free) := fun r =>
    applyUps_obj _ _ (by rw [List.map_fst_zip (by rw [hosl]; exact Nat.le_refl _)]; exact hnd) (fun p hp => hlt p.1 (List.of_mem_zip hp).1) r
  -- what becomes of the objects by name
  have qloc : ∀ r i, an.loc[i]? = some r → (applyUps x.σ ((an.loc ++ List.range' an.base an.fresh).zip os)).getD r .free = backObj bk (genOf (x.obj r)) (objs'.getD i .free) := fun r i hi => by
    have hil : i < an.loc.length := (List.getElem?_eq_some_iff.1 hi).1
    have h1 : (an.loc ++ List.range' an.base an.fresh)[i]? = some r := by rw [List.getElem?_append_left hil]; exact hi
    rw [hget, zip_lookup _ _ hnd hosl i r h1, hosg i (by omega), gens_at hi]; rfl
  have qfresh : ∀ r, an.base ≤ r ∧ r < an.base + an.fresh → (applyUps x.σ ((an.loc ++ List.range' an.base an.fresh).zip os)).getD r .free = backObj bk 0 (objs'.getD (an.loc.length + (r - an.base)) .free) := fun r hr => by
    have h1 : (an.loc ++ List.range' an.base an.fresh)[an.loc.length + (r - an.base)]? = some r := by
      rw [List.getElem?_append_right (by omega), show an.loc.length + (r - an.base) - an.loc.length = r - an.base by omega, List.getElem?_range' (by omega)]
      congr 1; omega
    rw [hget, zip_lookup _ _ hnd hosl _ r h1, hosg _ (by omega), List.getD_eq_getElem?_getD, List.getElem?_eq_none (by simp)]; rfl
  have qnone : ∀ r, findRef an.loc r = none → ¬ (an.base ≤ r ∧ r < an.base + an.fresh) → (applyUps x.σ ((an.loc ++ List.range' an.base an.fresh).zip os)).getD r .free = x.σ.getD r .free := fun r h1 h2 => by
    rw [hget, zip_lookup_none]
    · rfl
    · intro hm
      rcases List.mem_append.1 hm with hm | hm
      · exact findRef_none _ _ h1 hm
      · rw [List.mem_range'_1] at hm; exact h2 hm
  have virtual := fun (r : Nat) (hr : 64 ≤ r) => virt_back (bk := bk) (g := genOf (x.obj (r % 64))) L hr hkind (σ' := applyUps x.σ ((an.loc ++ List.range' an.base an.fresh).zip os)) (by
    have hp : r % 64 < 64 := Nat.mod_lt _ (by omega)
    have hx : x.obj (r % 64) = x.σ.getD (r % 64) .free := objAt_low hp
    cases hf : findRef an.loc (r % 64) with
    | some i => exact .inl ⟨i, findRef_get _ _ _ hf, qloc _ _ (findRef_get _ _ _ hf)⟩
    | none =>
      by_cases hb : an.base ≤ r % 64 ∧ r % 64 < an.base + an.fresh
      · refine .inr (.inl ⟨?_, by rw [obj_of_get H.mem (isFree _ hb)]; rfl⟩)
        rw [qfresh _ hb, backObj_pool]; exact hnop _ (by omega)
      · exact .inr (.inr ⟨findRef_not hf, by rw [qnone _ hf hb, hx]⟩))
  refine ⟨fun r i hv => ?_, fun r hv => .inl ?_⟩
  · rcases iv_cases L hv with hn | ⟨hb, e⟩
    · rcases nm_cases hn with ⟨hi64, hi⟩ | ⟨hr, e, hh⟩
      · rw [objAt_low ((hin r (List.mem_of_getElem? hi)).2), qloc r i hi, objAt_low hi64]
      · subst e; exact (virtual r hr).1 hh _
    · have h64 := H.mem.low (isFree r hb)
      rw [objAt_low h64, qfresh r hb, e, objAt_low (by omega), obj_of_get H.mem (isFree r hb)]; rfl
  · obtain ⟨h1, h2, h3⟩ := iv_none hv
    by_cases hr : 64 ≤ r
    · exact (virtual r hr).2 fun hh => h2 ⟨hr, hh⟩
    · rw [objAt_low (by omega), qnone r h1 h3]
      exact (objAt_low (by omega)).symm

theorem virt_inj {p j r : Nat} (h1 : r % 64 = p) (h2 : r / 64 - 1 = j) (h3 : 64 ≤ r) : r = virt p j := by subst h1; subst h2; exact virt_of h3

theorem actOpen_ok (H : Meets P T ρ get a w x) {o : Oper} {fo : Operand} {argos : Array Operand} {ats : Array TypeId} (ho : o.op = .call { callee := .value fo, args := argos, argTypes := ats }) {f : FuncId} {caps : AVal} {args all : List AVal} {F : Fun} (hF : FunOk P f F)
    (hf : ρ fo = some (.fn f caps)) (hcaps : caps.given args = some all) (hargs : argos.toList.mapM ρ = some args) (an : Ann) (ai p : Nat) {k : AVal → Ups → Option R} {z : R} (hk : actOpen get an ai p F all k = some z) :
    ∃ u ups, k u ups = some z ∧ ActOk P o a w x u ups := by
  unfold actOpen at hk
  split at hk
  case h_2 => cases hk
  rename_i v0 hai
  split at hk
  case h_2 => cases hk
  rename_i j hpi
  obtain ⟨own, rfl⟩ := prefIdx_some hpi
  obtain ⟨q, hqe⟩ : ∃ q, q = p := ⟨p, rfl⟩
  rw [← hqe] at hk hai
  clear hqe
  split at hk
  case h_2 => cases hk
  rename_i t xs hg
  split at hk
  case h_2 => cases hk
  rename_i d hd
  split at hk
  case h_2 => cases hk
  rename_i objs args1 bor hobjs hlend
  obtain ⟨hfit, hk⟩ := cond_some hk
  rw [Bool.and_eq_true] at hfit
  obtain ⟨hfit, hpn⟩ := hfit
  have hpn : q ∉ an.loc := fun h => by rw [memB_iff.2 h] at hpn; cases hpn
  obtain ⟨L0, hobjs', hin, hlive, hfree, hbor, hl64⟩ := callFits_inv H hobjs hfit
  have hn : objs.length = an.loc.length := by rw [hobjs', List.length_map]
  have hp := H.obj _ _ hg
  have hp64 := H.mem.low hp
  have hpo := obj_of_get H.mem hp
  have hjl : j < xs.length := (List.getElem?_eq_some_iff.1 hd).1
  have hv : x.obj (virt q j) = .box (.dat true t d) := by
    rw [obj_virt x (virt_ge q j), virt_mod hp64, virt_div hp64, hpo]
    simp only [elemAt, hd]
  have hvn : virt q j ∉ an.loc := fun h => by have := (hin _ h).2; have := virt_ge q j; omega
  have L : LocOk x (an.loc ++ [virt q j]) := by
    refine ⟨?_, by simp; omega, fun i r hi hr => ?_, fun r hr h64 hh => ?_⟩
    · rw [List.nodup_append]
      refine ⟨L0.nodup, by simp, fun a ha b hb e => ?_⟩
      simp at hb; subst hb; subst e; exact hvn ha
    · rcases Nat.lt_or_ge i an.loc.length with h | h
      · rw [List.getElem?_append_left h] at hi; exact L0.pools i r hi hr
      · rw [List.getElem?_append_right h] at hi
        have : r = virt q j := by
          rcases List.getElem?_eq_some_iff.1 hi with ⟨_, e⟩
          simpa using e.symm
        rw [this, hv] at hr; cases hr
    · have : r = virt q j := by
        rcases List.mem_append.1 hr with h | h
        · have := (hin _ h).2; omega
        · simpa using h
      rw [this, virt_mod hp64] at hh
      rcases List.mem_append.1 (List.mem_of_getElem? hh.1) with h | h
      · exact hpn h
      · simp at h; have := virt_ge q j; omega
  have hgens : (objs ++ [AObj.box (.dat true t d)]).map genOf = (an.loc ++ [virt q j]).map fun r => genOf (x.obj r) := by rw [hobjs']; simp [hv, List.map_append]
  rw [hgens, hn] at hk
  obtain ⟨ret, objs', hk3, hlen, hkind, hnop, hups⟩ := call_core H ho hF hf hcaps hargs an L (by rw [hobjs']; simp [hv]) (fun r hr => by
      rcases List.mem_append.1 hr with h | h
      · exact hlive r h
      · simp at h; rw [h, hv]; rfl) hfree (fun r hr => by
      have h64 := lend_low H.mem H.obj _ _ _ _ hlend r hr
      refine ⟨⟨fun h => ?_, (hbor r hr).2⟩, h64⟩
      rcases List.mem_append.1 h with h | h
      · exact (hbor r hr).1 h
      · simp at h; have := virt_ge q j; omega)
    (fun ALL hA => by
      obtain ⟨c, hc, hcv⟩ := hA.get hai
      have hA' : All2 (fun v u => v.V x u) (all.set ai .nilp) (ALL.set ai (.pointer none)) := hA.set ai (show AVal.V x .nilp (.pointer none) from rfl)
      have h2 := lend_V (loc := an.loc ++ [virt q j]) (bor := bor) H.mem H.obj (loc_names (x := x) (loc := an.loc ++ [virt q j]) (bor := bor) L) an.lend _ args1 bor _ hlend (fun r hr => hr) hA'
      have h3 := h2.set ai (x := AVal.ptr an.loc.length 0 []) (y := c) ?_
      · rw [List.set_set] at h3
        have e : ALL.set ai c = ALL := by
          apply List.ext_getElem?
          intro i
          rw [List.getElem?_set]
          split
          · rename_i e; subst e; rw [if_pos (List.getElem?_eq_some_iff.1 hc).1]; exact hc.symm
          · rfl
        rw [e] at h3; exact h3
      · obtain ⟨b, hb, hcc⟩ := (show ∃ b, x.at_ q j = some b ∧ [c] = [Value.pointer (some ⟨b, 0, none⟩)] from hcv)
        simp only [List.cons.injEq, and_true] at hcc
        subst hcc
        have hm := H.mem.objs q
        rw [hpo] at hm
        obtain ⟨b', k1, k2⟩ := hm.2.2.2.1 j hjl
        rw [hb] at k1; cases k1
        have hnm : x.nm (an.loc ++ [virt q j]) an.loc.length = some (virt q j) := nm_at L (by simp)
        refine (show (AVal.ptr an.loc.length 0 []).C _ _ from ⟨_, rfl, rfl, ?_⟩)
        unfold PtrRel
        rw [loc_obj L hnm, hv, loc_μ hnm]
        exact ⟨_, _, 0, k2, by unfold Sh.at; rfl, rfl⟩) hk
  split at hk3
  case h_2 => cases hk3
  rename_i t' d' hosn
  split at hk3
  case isFalse => cases hk3
  rename_i ht
  subst ht
  simp only [hn] at hk3
  refine ⟨_, _, hk3, hups _ fun htop => ?_⟩
  generalize hbk : backName (an.loc ++ [virt q j]) ((an.loc ++ [virt q j]).map fun r => genOf (x.obj r)) an.base = bk at hosn ⊢
  have hLl : (an.loc ++ [virt q j]).length = an.loc.length + 1 := by simp
  rw [hLl] at hlen htop hnop
  have isFree : ∀ r, an.base ≤ r ∧ r < an.base + an.fresh → x.σ[r]? = some .free := fun r hr => by
    have := hfree (r - an.base) (by omega)
    rwa [show an.base + (r - an.base) = r by omega] at this
  have notLoc : ∀ r, an.base ≤ r ∧ r < an.base + an.fresh → findRef an.loc r = none := fun r hr => by
    cases hf : findRef an.loc r with
    | none => rfl
    | some j =>
      have h1 := hlive _ (List.mem_of_getElem? (findRef_get _ _ _ hf))
      rw [obj_of_get H.mem (isFree r hr)] at h1; cases h1
  have hpf : ¬ (an.base ≤ q ∧ q < an.base + an.fresh) := fun hb => by
    have := isFree q hb
    rw [hp] at this; cases this
  have hnd : (an.loc ++ List.range' an.base an.fresh).Nodup := by
    rw [List.nodup_append]
    refine ⟨L0.nodup, List.nodup_range', fun a ha b hb e => ?_⟩
    subst e
    rw [List.mem_range'_1] at hb
    exact findRef_none _ _ (notLoc a hb) ha
  have hpk : q ∉ an.loc ++ List.range' an.base an.fresh := fun h => by
    rcases List.mem_append.1 h with h | h
    · exact hpn h
    · rw [List.mem_range'_1] at h; exact hpf h
  have hlt : ∀ r ∈ an.loc ++ List.range' an.base an.fresh, r < x.σ.length := fun r hr => by
    rcases List.mem_append.1 hr with hr | hr
    · exact (hin r hr).1
    · rw [List.mem_range'_1] at hr
      exact (List.getElem?_eq_some_iff.1 (isFree r hr)).1
  rw [hLl] at hosn ⊢
  generalize hos : ((List.range (an.loc.length + 1 + an.fresh)).map fun i => backObj bk (((an.loc ++ [virt q j]).map fun r => genOf (x.obj r)).getD i 0) (objs'.getD i .free)) = os at hosn ⊢
  have hosg : ∀ i, i < an.loc.length + 1 + an.fresh → os[i]? = some (backObj bk (((an.loc ++ [virt q j]).map fun r => genOf (x.obj r)).getD i 0) (objs'.getD i .free)) := fun i hi => by
    rw [← hos, List.getElem?_map, List.getElem?_range hi]; rfl
  have hose : ∀ i, (os.eraseIdx an.loc.length)[i]? = if i < an.loc.length then os[i]? else os[i + 1]? := fun i => List.getElem?_eraseIdx
  have hosl : (an.loc ++ List.range' an.base an.fresh).length = (os.eraseIdx an.loc.length).length := by
    have : os.length = an.loc.length + 1 + an.fresh := by rw [← hos]; simp
    rw [List.length_eraseIdx, if_pos (by omega)]; simp; omega
  generalize hpool : AObj.pool t' (xs.set j d') = po
  generalize hks : an.loc ++ List.range' an.base an.fresh = ks at *
  have hmap : (ks.zip (os.eraseIdx an.loc.length) ++ [(q, po)]).map (·.1) = ks ++ [q] := by
    rw [List.map_append, List.map_fst_zip (by rw [hosl]; exact Nat.le_refl _)]; rfl
  have hget : ∀ r, (applyUps x.σ (ks.zip (os.eraseIdx an.loc.length) ++ [(q, po)])).getD r .free = (lookUp (ks.zip (os.eraseIdx an.loc.length) ++ [(q, po)]) r).getD (x.σ.getD r .free) := fun r =>
    applyUps_obj _ _ (by
      rw [hmap, List.nodup_append]
      refine ⟨hnd, by simp, fun a ha b hb e => ?_⟩
      simp at hb; subst hb; subst e; exact hpk ha) (fun p hp' => by
      rcases List.mem_append.1 hp' with h | h
      · exact hlt p.1 (List.of_mem_zip h).1
      · simp at h; rw [h]; exact (List.getElem?_eq_some_iff.1 hp).1) r
  have qloc : ∀ r i, an.loc[i]? = some r → (applyUps x.σ (ks.zip (os.eraseIdx an.loc.length) ++ [(q, po)])).getD r .free = backObj bk (genOf (x.obj r)) (objs'.getD i .free) := fun r i hi => by
    have hil : i < an.loc.length := (List.getElem?_eq_some_iff.1 hi).1
    have h1 : ks[i]? = some r := by rw [← hks, List.getElem?_append_left hil]; exact hi
    have h2 : (an.loc ++ [virt q j])[i]? = some r := by rw [List.getElem?_append_left hil]; exact hi
    rw [hget, lookUp_append, zip_lookup _ _ hnd hosl i r h1, hose, if_pos hil, hosg i (by omega), gens_at h2]; rfl
  have qfresh : ∀ r, an.base ≤ r ∧ r < an.base + an.fresh → (applyUps x.σ (ks.zip (os.eraseIdx an.loc.length) ++ [(q, po)])).getD r .free = backObj bk 0 (objs'.getD (an.loc.length + 1 + (r - an.base)) .free) := fun r hr => by
    have h1 : ks[an.loc.length + (r - an.base)]? = some r := by
      rw [← hks, List.getElem?_append_right (by omega), show an.loc.length + (r - an.base) - an.loc.length = r - an.base by omega, List.getElem?_range' (by omega)]
      congr 1; omega
    rw [hget, lookUp_append, zip_lookup _ _ hnd hosl _ r h1, hose, if_neg (by omega), hosg _ (by omega), List.getD_eq_getElem?_getD, List.getElem?_eq_none (by simp), show an.loc.length + (r - an.base) + 1 = an.loc.length + 1 + (r - an.base) by omega]; rfl
  have qrest : ∀ r, findRef an.loc r = none → ¬ (an.base ≤ r ∧ r < an.base + an.fresh) → (applyUps x.σ (ks.zip (os.eraseIdx an.loc.length) ++ [(q, po)])).getD r .free = if r = q then po else x.σ.getD r .free := fun r h1 h2 => by
    rw [hget, lookUp_append, zip_lookup_none]
    · show (if r = q then some po else none : Option AObj).getD _ = _
      by_cases e : r = q
      · rw [if_pos e, if_pos e]; rfl
      · rw [if_neg e, if_neg e]; rfl
    · intro hm
      rw [← hks] at hm
      rcases List.mem_append.1 hm with hm | hm
      · exact findRef_none _ _ h1 hm
      · rw [List.mem_range'_1] at hm; exact h2 hm
  have hqn : findRef an.loc q = none := by
    cases hf : findRef an.loc q with
    | none => rfl
    | some i => exact (hpn (List.mem_of_getElem? (findRef_get _ _ _ hf))).elim
  have inLoc : ∀ (i r : Nat), (an.loc ++ [virt q j])[i]? = some r → (i < an.loc.length ∧ an.loc[i]? = some r) ∨ (i = an.loc.length ∧ r = virt q j) := fun i r hi => by
    rcases Nat.lt_or_ge i an.loc.length with h | h
    · rw [List.getElem?_append_left h] at hi; exact .inl ⟨h, hi⟩
    · rw [List.getElem?_append_right h] at hi
      rcases List.getElem?_eq_some_iff.1 hi with ⟨hl, e⟩
      simp at hl
      exact .inr ⟨by omega, by simpa using e.symm⟩
  have nothanded : ¬ handed x (an.loc ++ [virt q j]) q := fun hh => by
    have := L.apart (virt q j) (by simp) (virt_ge q j)
    rw [virt_mod hp64] at this; exact this hh
  have virtual : ∀ r, 64 ≤ r → r % 64 ≠ q → (handed x (an.loc ++ [virt q j]) (r % 64) → ∀ g', objAt (applyUps x.σ (ks.zip (os.eraseIdx an.loc.length) ++ [(q, po)])) r = backObj bk g' (objAt objs' r)) ∧ (¬ handed x (an.loc ++ [virt q j]) (r % 64) → objAt (applyUps x.σ (ks.zip (os.eraseIdx an.loc.length) ++ [(q, po)])) r = x.obj r) := fun r hr hne => virt_back (bk := bk) (g := genOf (x.obj (r % 64))) L hr hkind (by
    have hp' : r % 64 < 64 := Nat.mod_lt _ (by omega)
    have hx : x.obj (r % 64) = x.σ.getD (r % 64) .free := objAt_low hp'
    cases hf : findRef an.loc (r % 64) with
    | some i =>
      have hi := findRef_get _ _ _ hf
      exact .inl ⟨i, by rw [List.getElem?_append_left (List.getElem?_eq_some_iff.1 hi).1]; exact hi, qloc _ _ hi⟩
    | none =>
      by_cases hb : an.base ≤ r % 64 ∧ r % 64 < an.base + an.fresh
      · refine .inr (.inl ⟨?_, by rw [obj_of_get H.mem (isFree _ hb)]; rfl⟩)
        rw [qfresh _ hb, backObj_pool]; exact hnop _ (by omega)
      · refine .inr (.inr ⟨fun i hi => ?_, by rw [qrest _ hf hb, if_neg hne, hx]⟩)
        rcases inLoc i _ hi with ⟨_, h⟩ | ⟨_, h⟩
        · exact findRef_not hf i h
        · have := virt_ge q j; omega)
  have inPool : ∀ r, 64 ≤ r → r % 64 = q → objAt (applyUps x.σ (ks.zip (os.eraseIdx an.loc.length) ++ [(q, po)])) r = elemAt po (r / 64 - 1) := fun r hr e => by
    unfold objAt
    rw [if_neg (by omega), e, qrest q hqn hpf, if_pos rfl]
  refine ⟨fun r i hiv => ?_, fun r hiv => ?_⟩
  · rcases iv_cases L hiv with hnm | ⟨hb, e⟩
    · rcases nm_cases hnm with ⟨hi64, hi⟩ | ⟨hr, e, hh⟩
      · rcases inLoc i r hi with ⟨_, hi'⟩ | ⟨rfl, rfl⟩
        · rw [objAt_low ((hin r (List.mem_of_getElem? hi')).2), qloc r i hi', objAt_low hi64]
        · rw [inPool _ (virt_ge q j) (virt_mod hp64), virt_div hp64, ← hpool, objAt_low hi64]
          rw [hosg _ (by omega)] at hosn
          simp only [Option.some.injEq] at hosn
          have e2 : elemAt (AObj.pool t' (xs.set j d')) j = .box (.dat true t' d') := by
            unfold elemAt
            simp [List.getElem?_set, hjl]
          rw [e2]
          cases ho : objs'.getD an.loc.length .free with
          | box u => rw [ho] at hosn; exact hosn.symm
          | _ => rw [ho] at hosn; cases hosn
      · subst e
        by_cases e : r % 64 = q
        · rw [e] at hh; exact (nothanded hh).elim
        · exact (virtual r hr e).1 hh _
    · have h64 := H.mem.low (isFree r hb)
      rw [objAt_low h64, qfresh r hb, e, hLl, objAt_low (by omega), obj_of_get H.mem (isFree r hb)]; rfl
  · obtain ⟨h1, h2, h3⟩ := iv_none hiv
    have h1' : findRef an.loc r = none := by
      cases hf : findRef an.loc r with
      | none => rfl
      | some i => exact (findRef_none _ _ h1 (List.mem_append_left _ (List.mem_of_getElem? (findRef_get _ _ _ hf)))).elim
    by_cases hr : 64 ≤ r
    · refine .inl ?_
      by_cases e : r % 64 = q
      · rw [inPool r hr e, obj_virt x hr, e, hpo, ← hpool]
        have hj : r / 64 - 1 ≠ j := fun e2 => findRef_none _ _ h1 (by rw [virt_inj e e2 hr]; simp)
        unfold elemAt
        simp only [List.getElem?_set]
        rw [if_neg (fun e => hj e.symm)]
      · exact (virtual r hr e).2 fun hh => h2 ⟨hr, hh⟩
    · by_cases e : r = q
      · subst e
        refine .inr ⟨t', xs, xs.set j d', hpo, ?_, by simp⟩
        rw [objAt_low hp64, qrest r h1' h3, if_pos rfl, hpool]
      · refine .inl ?_
        rw [objAt_low (by omega), qrest r h1' h3, if_neg e]
        exact (objAt_low (by omega)).symm

theorem actCall_ok (H : Meets P T ρ get a w x) {o : Oper} {fo : Operand} {argos : Array Operand} {ats : Array TypeId} (ho : o.op = .call { callee := .value fo, args := argos, argTypes := ats }) {f : FuncId} {caps : AVal} {args all : List AVal} {F : Fun} (hF : FunOk P f F)
    (hf : ρ fo = some (.fn f caps)) (hcaps : caps.given args = some all) (hargs : argos.toList.mapM ρ = some args) (an : Ann) {k : AVal → Ups → Option R} {z : R} (hk : actCall get an F all k = some z) :
    ∃ u ups, k u ups = some z ∧ ActOk P o a w x u ups := by
  unfold actCall at hk
  split at hk
  · split at hk
    · rename_i objs args1 bor hobjs hlend
      obtain ⟨hfit, hk⟩ := cond_some hk
      exact actCall_plain H ho hF hf hcaps hargs an hobjs hlend hfit hk
    · cases hk
  · exact actOpen_ok H ho hF hf hcaps hargs an _ _ hk
end
end Go.Am
