/- The abstract machine, thirteenth part: what a call is handed of a state, and what comes back of it. -/
import Derived.Test.YtiecnmmffplgcaaAmLB
namespace Go.Am

/-- A value with its references named otherwise. -/
def AVal.refs (f : Nat → Nat → Option (Nat × Nat)) : AVal → AVal
  | .ptr r g p => match f r g with | some (r', g') => .ptr r' g' p | none => .junk
  | .slc r g => match f r g with | some (r', g') => .slc r' g' | none => .junk
  | .sub r g lo len ex => match f r g with | some (r', g') => .sub r' g' lo len ex | none => .junk
  | .map r => match f r 0 with | some (r', _) => .map r' | none => .junk
  | .pair a b => .pair (a.refs f) (b.refs f)
  | .one a => .one (a.refs f)
  | .fn i c => .fn i (c.refs f)
  | .iface t v => .iface t (v.refs f)
  | .tup v => .tup (v.refs f)
  | .cons a b => .cons (a.refs f) (b.refs f)
  | v => v

/-- Data as a callee has them: plain data are anyone's. -/
def AVal.weak : AVal → AVal
  | .dat p t x => bif t.plain then .dat false t x else .dat p t x
  | .pair a b => .pair a.weak b.weak
  | .one a => .one a.weak
  | .fn i c => .fn i c.weak
  | .iface t v => .iface t v.weak
  | .tup v => .tup v.weak
  | .cons a b => .cons a.weak b.weak
  | v => v

/-- Is nothing inside lent? -/
def AVal.kept : AVal → Bool
  | .dat p t _ => p || t.plain
  | .ref p _ _ => p
  | .pair a b => a.kept && b.kept
  | .one a => a.kept
  | .fn _ c => c.kept
  | .iface _ v => v.kept
  | .tup v => v.kept
  | .cons a b => a.kept && b.kept
  | _ => true

def AObj.kept : AObj → Bool
  | .box v => v.kept
  | .iter v _ _ => v.kept
  | _ => true

theorem refs_agg (f : Nat → Nat → Option (Nat × Nat)) (v : AVal) : (v.refs f).agg = v.agg := by
  cases v <;> simp only [AVal.refs] <;> first | rfl | (split <;> rfl)
theorem refs_sh (f : Nat → Nat → Option (Nat × Nat)) : ∀ v : AVal, (v.refs f).sh = v.sh := by
  intro v; induction v <;> simp only [AVal.refs] <;> first | rfl | (split <;> rfl) | simp_all [AVal.sh]
theorem refs_flat (f : Nat → Nat → Option (Nat × Nat)) : ∀ v : AVal, (v.refs f).flat = v.flat := by
  intro v; induction v <;> simp only [AVal.refs] <;> first | rfl | (split <;> rfl) | simp_all [AVal.flat]
theorem weak_agg (v : AVal) : v.weak.agg = v.agg := by
  cases v with
  | dat p t d => unfold AVal.weak; cases t.plain <;> rfl
  | _ => rfl

/-- What a name comes to says what was said. -/
structure Names (x y : Ctx) (f : Nat → Nat → Option (Nat × Nat)) : Prop where
  ptr : ∀ r g r' g' p c, f r g = some (r', g') → PtrRel x r g p c → PtrRel y r' g' p c
  slc : ∀ r g r' g' c, f r g = some (r', g') → SlcRel x r g c → SlcRel y r' g' c
  sub : ∀ r g r' g' lo len ex c, f r g = some (r', g') → SubRel x r g lo len ex c → SubRel y r' g' lo len ex c
  map : ∀ r r' g' c, f r 0 = some (r', g') → MapRel x r c → MapRel y r' c

theorem refs_C {x y : Ctx} {f : Nat → Nat → Option (Nat × Nat)} (hs : ∀ p b, x.S p b → y.S p b ∧ y.h b = x.h b) (N : Names x y f) : ∀ (v : AVal) (cs : List Value), v.C x cs → (v.refs f).C y cs := by
  intro v
  induction v with
  | dat p t d => exact fun cs h => h.congr (hs p)
  | pair a b iha ihb => rintro cs ⟨c1, c2, e, h1, h2⟩; exact ⟨c1, c2, e, iha _ h1, ihb _ h2⟩
  | one a ih => exact fun cs h => ih cs h
  | ptr r g p =>
    rintro cs ⟨c, e, h1, h⟩; simp only [AVal.refs]
    cases hf : f r g with
    | none => exact ⟨c, e, h1⟩
    | some q => exact ⟨c, e, h1, N.ptr _ _ _ _ _ _ hf h⟩
  | nilp => exact fun _ h => h
  | ref p t d => rintro cs ⟨b, o, ds, e, h1, h2, h3⟩; exact ⟨b, o, ds, e, (hs _ _ h1).1, h2.congr (hs _ _ h1).2, h3.congr (hs p)⟩
  | slc r g =>
    rintro cs ⟨c, e, h1, h⟩; simp only [AVal.refs]
    cases hf : f r g with
    | none => exact ⟨c, e, h1⟩
    | some q => exact ⟨c, e, h1, N.slc _ _ _ _ _ hf h⟩
  | sub r g lo len ex =>
    rintro cs ⟨c, e, h1, h⟩; simp only [AVal.refs]
    cases hf : f r g with
    | none => exact ⟨c, e, h1⟩
    | some q => exact ⟨c, e, h1, N.sub _ _ _ _ _ _ _ _ hf h⟩
  | nils => exact fun _ h => h
  | map r =>
    rintro cs ⟨c, e, h1, h⟩; simp only [AVal.refs]
    cases hf : f r 0 with
    | none => exact ⟨c, e, h1⟩
    | some q => exact ⟨c, e, h1, N.map _ _ _ _ hf h⟩
  | nilm => exact fun _ h => h
  | fn i caps ih => rintro cs ⟨vs, e, h⟩; exact ⟨vs, by rw [e]; congr 2; cases caps <;> first | rfl | (simp only [AVal.refs]; split <;> rfl) | (simp only [AVal.weak, AVal.isTup]; rename_i t _; cases t.plain <;> rfl), ih _ h⟩
  | nilf => exact fun _ h => h
  | iface t v ih =>
    rintro cs ⟨u, e, h⟩; refine ⟨u, e, ?_⟩
    rw [refs_agg]
    by_cases hv : v.agg = true
    · rw [if_pos hv] at h ⊢; obtain ⟨c, e, h⟩ := h; exact ⟨c, e, ih _ h⟩
    · rw [if_neg hv] at h ⊢; exact ih _ h
  | nili => exact fun _ h => h
  | tup vs ih => rintro cs ⟨us, e, h⟩; exact ⟨us, e, ih _ h⟩
  | nil => exact fun _ h => h
  | cons a b iha ihb =>
    rintro cs ⟨u, us, e, h, h'⟩; refine ⟨u, us, e, ?_, ihb _ h'⟩
    rw [refs_agg]
    by_cases hv : a.agg = true
    · rw [if_pos hv] at h ⊢; obtain ⟨c, e, h⟩ := h; exact ⟨c, e, iha _ h⟩
    · rw [if_neg hv] at h ⊢; exact iha _ h
  | junk => exact fun _ h => h

theorem V_of_C {x y : Ctx} {v v' : AVal} (ha : v'.agg = v.agg) (hC : ∀ cs, v.C x cs → v'.C y cs) {u : Value} (h : v.V x u) : v'.V y u := by
  unfold AVal.V at *
  rw [ha]
  by_cases hv : v.agg = true
  · rw [if_pos hv] at h ⊢; obtain ⟨c, e, h⟩ := h; exact ⟨c, e, hC _ h⟩
  · rw [if_neg hv] at h ⊢; exact hC _ h

theorem refs_V {x y : Ctx} {f : Nat → Nat → Option (Nat × Nat)} (hs : ∀ p b, x.S p b → y.S p b ∧ y.h b = x.h b) (N : Names x y f) {v : AVal} {u : Value} (h : v.V x u) : (v.refs f).V y u :=
  V_of_C (refs_agg f v) (refs_C hs N v) h

theorem weak_C {x : Ctx} : ∀ (v : AVal) (cs : List Value), v.C x cs → v.weak.C x cs := by
  intro v
  induction v with
  | dat p t d =>
    intro cs h
    unfold AVal.weak
    cases hp : t.plain with
    | false => exact h
    | true => exact Ty.Rel.ofPlain _ _ _ hp h
  | pair a b iha ihb => rintro cs ⟨c1, c2, e, h1, h2⟩; exact ⟨c1, c2, e, iha _ h1, ihb _ h2⟩
  | one a ih => exact fun cs h => ih cs h
  | fn i caps ih => rintro cs ⟨vs, e, h⟩; exact ⟨vs, by rw [e]; congr 2; cases caps <;> first | rfl | (simp only [AVal.refs]; split <;> rfl) | (simp only [AVal.weak, AVal.isTup]; rename_i t _; cases t.plain <;> rfl), ih _ h⟩
  | iface t v ih =>
    rintro cs ⟨u, e, h⟩; refine ⟨u, e, ?_⟩
    rw [weak_agg]
    by_cases hv : v.agg = true
    · rw [if_pos hv] at h ⊢; obtain ⟨c, e, h⟩ := h; exact ⟨c, e, ih _ h⟩
    · rw [if_neg hv] at h ⊢; exact ih _ h
  | tup vs ih => rintro cs ⟨us, e, h⟩; exact ⟨us, e, ih _ h⟩
  | cons a b iha ihb =>
    rintro cs ⟨u, us, e, h, h'⟩; refine ⟨u, us, e, ?_, ihb _ h'⟩
    rw [weak_agg]
    by_cases hv : a.agg = true
    · rw [if_pos hv] at h ⊢; obtain ⟨c, e, h⟩ := h; exact ⟨c, e, iha _ h⟩
    · rw [if_neg hv] at h ⊢; exact iha _ h
  | _ => exact fun _ h => h

/-- Where nothing is lent, it does not matter what is lent. -/
theorem kept_C {x y : Ctx} (hs : ∀ b, x.S true b → y.S true b ∧ y.h b = x.h b) (hk : ∀ r, Keeps x y r) : ∀ (v : AVal) (cs : List Value), v.kept = true → v.C x cs → v.C y cs := by
  intro v
  induction v with
  | dat p t d =>
    intro cs hp h
    cases p with
    | true => exact h.congr hs
    | false => exact Ty.Rel.ofPlain t d cs (by simpa [AVal.kept] using hp) h
  | ref p t d =>
    intro cs hp h
    cases p with
    | true => obtain ⟨b, o, ds, e, h1, h2, h3⟩ := h; exact ⟨b, o, ds, e, (hs _ h1).1, h2.congr (hs _ h1).2, h3.congr hs⟩
    | false => cases hp
  | pair a b iha ihb => rintro cs hp ⟨c1, c2, e, h1, h2⟩; simp only [AVal.kept, Bool.and_eq_true] at hp; exact ⟨c1, c2, e, iha _ hp.1 h1, ihb _ hp.2 h2⟩
  | one a ih => exact fun cs hp h => ih cs hp h
  | ptr r g p => rintro cs _ ⟨c, e, h1, h⟩; exact ⟨c, e, h1, (hk r).ptr _ _ _ h⟩
  | slc r g => rintro cs _ ⟨c, e, h1, h⟩; exact ⟨c, e, h1, (hk r).slc _ _ h⟩
  | sub r g lo len ex => rintro cs _ ⟨c, e, h1, h⟩; exact ⟨c, e, h1, (hk r).sub _ _ _ _ _ h⟩
  | map r => rintro cs _ ⟨c, e, h1, h⟩; exact ⟨c, e, h1, (hk r).map _ h⟩
  | fn i caps ih => rintro cs hp ⟨vs, e, h⟩; exact ⟨vs, e, ih _ hp h⟩
  | iface t v ih =>
    rintro cs hp ⟨u, e, h⟩; refine ⟨u, e, ?_⟩
    by_cases hv : v.agg = true
    · rw [if_pos hv] at h ⊢; obtain ⟨c, e, h⟩ := h; exact ⟨c, e, ih _ hp h⟩
    · rw [if_neg hv] at h ⊢; exact ih _ hp h
  | tup vs ih => rintro cs hp ⟨us, e, h⟩; exact ⟨us, e, ih _ hp h⟩
  | cons a b iha ihb =>
    rintro cs hp ⟨u, us, e, h, h'⟩; simp only [AVal.kept, Bool.and_eq_true] at hp; refine ⟨u, us, e, ?_, ihb _ hp.2 h'⟩
    by_cases hv : a.agg = true
    · rw [if_pos hv] at h ⊢; obtain ⟨c, e, h⟩ := h; exact ⟨c, e, iha _ hp.1 h⟩
    · rw [if_neg hv] at h ⊢; exact iha _ hp.1 h
  | _ => exact fun _ _ h => h

/-- Which one of some references it is. -/
def findRef : List Nat → Nat → Option Nat
  | [], _ => none
  | r' :: l, r => bif Nat.beq r r' then some 0 else (match findRef l r with | some i => some (i + 1) | none => none)

theorem findRef_get : ∀ (l : List Nat) (r i : Nat), findRef l r = some i → l[i]? = some r := by
  intro l
  induction l with
  | nil => intro r i h; cases h
  | cons r' l ih =>
    intro r i h
    unfold findRef at h
    cases hb : Nat.beq r r' with
    | true => rw [hb] at h; cases h; simp [Nat.eq_of_beq_eq_true hb]
    | false =>
      rw [hb] at h
      simp only [cond_false] at h
      split at h
      · rename_i j hj; cases h; simpa using ih r j hj
      · cases h

theorem findRef_none : ∀ (l : List Nat) (r : Nat), findRef l r = none → r ∉ l := by
  intro l
  induction l with
  | nil => intro r _; simp
  | cons r' l ih =>
    intro r h
    unfold findRef at h
    cases hb : Nat.beq r r' with
    | true => rw [hb] at h; cases h
    | false =>
      rw [hb] at h
      simp only [cond_false] at h
      split at h
      · cases h
      · rename_i hn
        simp only [List.mem_cons, not_or]
        exact ⟨(fun e => by rw [e, Nat.beq_refl] at hb; cases hb), ih r hn⟩

theorem findRef_nodup : ∀ (l : List Nat), l.Nodup → ∀ (i r : Nat), l[i]? = some r → findRef l r = some i := by
  intro l
  induction l with
  | nil => intro _ i r h; simp at h
  | cons r' l ih =>
    intro hn i r h
    rw [List.nodup_cons] at hn
    unfold findRef
    cases i with
    | zero => simp at h; subst h; simp [Nat.beq_refl]
    | succ i =>
      have h' : l[i]? = some r := by simpa using h
      have hne : Nat.beq r r' = false := by
        cases hb : Nat.beq r r' with
        | false => rfl
        | true => exact absurd (List.mem_of_getElem? h') (by rw [Nat.eq_of_beq_eq_true hb]; exact hn.1)
      rw [hne, ih hn.2 i r h']; rfl
end Go.Am
