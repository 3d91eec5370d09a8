/- The abstract machine: X XA XB Y Z. -/
import Derived.Test.YtbamjkhnnlekpaaAmW
import Derived.LoopN
import Derived.Scope
import Derived.RangeFuncLeaves
import Derived.RangeFuncFrom
/- The abstract machine, twenty-fourth part: a state told anew: what is not needed is let go, objects have other names. -/
namespace Go.Am

/-- Plain data are anyone's. -/
def AVal.firm : AVal → AVal
  | .dat p t x => bif p then .dat true t x else bif t.plain then .dat true t x else .dat false t x
  | .pair a b => .pair a.firm b.firm
  | .one a => .one a.firm
  | .fn i c => .fn i c.firm
  | .iface t v => .iface t v.firm
  | .tup v => .tup v.firm
  | .cons a b => .cons a.firm b.firm
  | v => v

theorem firm_dat {p : Bool} {t : Ty} {d : t.den} : (AVal.dat p t d).firm = .dat p t d ∨ (t.plain = true ∧ (AVal.dat p t d).firm = .dat true t d) := by
  unfold AVal.firm
  cases p with
  | true => exact .inl rfl
  | false =>
    cases h : t.plain with
    | true => exact .inr ⟨rfl, rfl⟩
    | false => exact .inl rfl

theorem firm_agg (v : AVal) : v.firm.agg = v.agg := by
  cases v with
  | dat p t d => rcases firm_dat (p := p) (d := d) with h | ⟨_, h⟩ <;> rw [h] <;> rfl
  | _ => rfl
theorem firm_sh : ∀ v : AVal, v.firm.sh = v.sh := by
  intro v
  induction v with
  | dat p t d => rcases firm_dat (p := p) (d := d) with h | ⟨_, h⟩ <;> rw [h] <;> rfl
  | _ => simp_all [AVal.firm, AVal.sh]
theorem firm_flat : ∀ v : AVal, v.firm.flat = v.flat := by
  intro v
  induction v with
  | dat p t d => rcases firm_dat (p := p) (d := d) with h | ⟨_, h⟩ <;> rw [h] <;> rfl
  | _ => simp_all [AVal.firm, AVal.flat]

theorem firm_C {x : Ctx} : ∀ (v : AVal) (cs : List Value), v.C x cs → v.firm.C x cs := by
  intro v
  induction v with
  | dat p t d =>
    intro cs h
    rcases firm_dat (p := p) (d := d) with e | ⟨hp, e⟩
    · rw [e]; exact h
    · rw [e]; exact Ty.Rel.ofPlain t d cs hp h
  | pair a b iha ihb => rintro cs ⟨c1, c2, e, h1, h2⟩; exact ⟨c1, c2, e, iha _ h1, ihb _ h2⟩
  | one a ih => exact fun cs h => ih cs h
  | fn i caps ih => rintro cs ⟨vs, e, h⟩; exact ⟨vs, by rw [e]; congr 2; cases caps <;> first | rfl | (rename_i p t _; simp only [AVal.firm, AVal.isTup]; cases p <;> cases t.plain <;> rfl), ih _ h⟩
  | iface t v ih =>
    rintro cs ⟨u, e, h⟩; refine ⟨u, e, ?_⟩
    rw [firm_agg]
    by_cases hv : v.agg = true
    · rw [if_pos hv] at h ⊢; obtain ⟨c, e, h⟩ := h; exact ⟨c, e, ih _ h⟩
    · rw [if_neg hv] at h ⊢; exact ih _ h
  | tup vs ih => rintro cs ⟨us, e, h⟩; exact ⟨us, e, ih _ h⟩
  | cons a b iha ihb =>
    rintro cs ⟨u, us, e, h, h'⟩; refine ⟨u, us, e, ?_, ihb _ h'⟩
    rw [firm_agg]
    by_cases hv : a.agg = true
    · rw [if_pos hv] at h ⊢; obtain ⟨c, e, h⟩ := h; exact ⟨c, e, iha _ h⟩
    · rw [if_neg hv] at h ⊢; exact iha _ h
  | _ => exact fun _ h => h

/-- A value told anew. -/
def AVal.told (f : Nat → Nat → Option (Nat × Nat)) (v : AVal) : AVal := (v.refs f).firm

theorem told_V {x y : Ctx} {f : Nat → Nat → Option (Nat × Nat)} (hs : HS x y) (N : Names x y f) {v : AVal} {u : Value} (h : v.V x u) : (v.told f).V y u :=
  V_of_C (firm_agg _) (firm_C _) (refs_V hs N h)

def newObj (f : Nat → Nat → Option (Nat × Nat)) (g : Nat) : AObj → AObj
  | .box v => .box (v.told f)
  | .arr _ t xs => .arr g t xs
  | .iter v s l => .iter (v.told f) s l
  | .vmap K m => .vmap K (m.map fun e => (e.1, e.2.told f))
  | o => o

def renFind : List (Option (Nat × Nat)) → Nat → Nat → Option (Nat × Nat)
  | [], _, _ => none
  | some (r', g') :: l, r, i => bif Nat.beq r r' then some (i, g') else renFind l r (i + 1)
  | none :: l, r, i => renFind l r (i + 1)

def renName (ks : List (Option (Nat × Nat))) (σ : List AObj) (r g : Nat) : Option (Nat × Nat) :=
  match renFind ks r 0 with
  | some (i, g') => bif Nat.beq g (genOf (σ.getD r .free)) then some (i, g') else none
  | none => none

def renObjs (ks : List (Option (Nat × Nat))) (σ : List AObj) : List AObj := ks.map fun
  | some (r, g) => newObj (renName ks σ) g (σ.getD r .free)
  | none => .free

def nodupK : List (Option (Nat × Nat)) → Bool
  | [] => true
  | some (r, _) :: l => l.all (fun | some (r', _) => !Nat.beq r r' | none => true) && nodupK l
  | none :: l => nodupK l

def AObj.arr0 : AObj → Bool
  | .arr g _ _ => Nat.beq g 0
  | _ => false
def AObj.isArr : AObj → Bool
  | .arr _ _ _ => true
  | _ => false

/-- Pools keep their names. -/
def poolsK (σ : List AObj) : List (Option (Nat × Nat)) → Nat → Bool
  | [], _ => true
  | some (r, _) :: l, i => (Nat.blt r 64 && (!(σ.getD r .free).isPool || Nat.beq r i)) && poolsK σ l (i + 1)
  | none :: l, i => poolsK σ l (i + 1)

def renFits (g0 : List Bool) (σ : List AObj) (ks : List (Option (Nat × Nat))) : Bool :=
  (nodupK ks && (Nat.ble ks.length 64 && poolsK σ ks 0)) && (List.range g0.length).all fun r => match ks[r]? with
    | some (some (r', g')) => (Nat.beq r' r && Nat.beq g' (genOf (σ.getD r .free))) || (g0.getD r false && (σ.getD r' .free).isArr && Nat.blt 0 g')
    | _ => false

theorem renFind_get : ∀ (ks : List (Option (Nat × Nat))) (r i0 i g : Nat), renFind ks r i0 = some (i, g) → ∃ j, i = i0 + j ∧ ks[j]? = some (some (r, g)) := by
  intro ks
  induction ks with
  | nil => intro r i0 i g h; cases h
  | cons k ks ih =>
    intro r i0 i g h
    cases k with
    | none => obtain ⟨j, h1, h2⟩ := ih r (i0 + 1) i g h; exact ⟨j + 1, by omega, by simpa using h2⟩
    | some q =>
      obtain ⟨r', g'⟩ := q
      simp only [renFind] at h
      cases hb : Nat.beq r r' with
      | true => rw [hb] at h; cases h; exact ⟨0, rfl, by simp [Nat.eq_of_beq_eq_true hb]⟩
      | false => rw [hb] at h; obtain ⟨j, h1, h2⟩ := ih r (i0 + 1) i g h; exact ⟨j + 1, by omega, by simpa using h2⟩

theorem nodupK_inj : ∀ (ks : List (Option (Nat × Nat))), nodupK ks = true → ∀ (i i' r g g' : Nat), ks[i]? = some (some (r, g)) → ks[i']? = some (some (r, g')) → i = i' := by
  intro ks
  induction ks with
  | nil => intro _ i i' r g g' h; simp at h
  | cons k ks ih =>
    intro hn i i' r g g' h h'
    have hk : nodupK ks = true := by
      cases k with
      | none => exact hn
      | some q => simp only [nodupK, Bool.and_eq_true] at hn; exact hn.2
    have no : ∀ (j r g0 g1 : Nat), k = some (r, g0) → ks[j]? = some (some (r, g1)) → False := by
      intro j r g0 g1 e hj
      subst e
      simp only [nodupK, Bool.and_eq_true] at hn
      have := List.all_eq_true.1 hn.1 _ (List.mem_of_getElem? hj)
      simp [Nat.beq_refl] at this
    cases i with
    | zero =>
      cases i' with
      | zero => rfl
      | succ i' => exact (no i' r g g' (by simpa using h) (by simpa using h')).elim
    | succ i =>
      cases i' with
      | zero => exact (no i r g' g (by simpa using h') (by simpa using h)).elim
      | succ i' => rw [ih hk i i' r g g' (by simpa using h) (by simpa using h')]

theorem poolsK_inv {σ : List AObj} : ∀ (ks : List (Option (Nat × Nat))) (n : Nat), poolsK σ ks n = true → ∀ i r g, ks[i]? = some (some (r, g)) → r < 64 ∧ ((σ.getD r .free).isPool = true → r = n + i) := by
  intro ks
  induction ks with
  | nil => intro n _ i r g h; simp at h
  | cons k ks ih =>
    intro n h i r g hi
    cases i with
    | zero =>
      simp at hi
      subst hi
      simp only [poolsK, Bool.and_eq_true] at h
      obtain ⟨⟨h1, h2⟩, _⟩ := h
      refine ⟨by simpa [Nat.blt_eq] using h1, fun hp => ?_⟩
      rw [hp] at h2
      exact Nat.eq_of_beq_eq_true (by simpa using h2)
    | succ i =>
      have hk : poolsK σ ks (n + 1) = true := by
        cases k with
        | none => exact h
        | some q => simp only [poolsK, Bool.and_eq_true] at h; exact h.2
      have := ih (n + 1) hk i r g (by simpa using hi)
      exact ⟨this.1, fun hp => by have := this.2 hp; omega⟩

def Ctx.ren (x : Ctx) (ks : List (Option (Nat × Nat))) : Ctx where
  h := x.h
  S := x.S
  μ := fun i => if i < 64 then (match ks[i]? with | some (some (r, _)) => x.μ r | _ => none) else x.μ i
  σ := renObjs ks x.σ
  at_ := x.at_
  pl := x.pl

/-- What is asked of new names. -/
structure RenOk (x : Ctx) (ks : List (Option (Nat × Nat))) : Prop where
  nodup : nodupK ks = true
  len : ks.length ≤ 64
  low : ∀ (i r g : Nat), ks[i]? = some (some (r, g)) → r < 64
  pools : ∀ (i r g : Nat), ks[i]? = some (some (r, g)) → (x.obj r).isPool = true → r = i

section
variable {x : Ctx} {ks : List (Option (Nat × Nat))}

theorem renOk_of {g0 : List Bool} (h : renFits g0 x.σ ks = true) : RenOk x ks := by
  unfold renFits at h
  rw [Bool.and_eq_true, Bool.and_eq_true, Bool.and_eq_true] at h
  obtain ⟨⟨h1, h2, h3⟩, _⟩ := h
  refine ⟨h1, by simpa using h2, fun i r g hi => (poolsK_inv ks 0 h3 i r g hi).1, fun i r g hi hp => ?_⟩
  have := poolsK_inv ks 0 h3 i r g hi
  unfold Ctx.obj at hp
  rw [objAt_low this.1] at hp
  have := this.2 hp
  omega

theorem RenOk.lt (O : RenOk x ks) {i : Nat} {q : Option (Nat × Nat)} (h : ks[i]? = some q) : i < 64 := Nat.lt_of_lt_of_le (List.getElem?_eq_some_iff.1 h).1 O.len

theorem renName_some (O : RenOk x ks) {r g r' g' : Nat} (h : renName ks x.σ r g = some (r', g')) : ks[r']? = some (some (r, g')) ∧ g = genOf (x.obj r) := by
  unfold renName at h
  split at h
  · rename_i i g1 hi
    obtain ⟨h1, h2⟩ := cond_some h
    cases h2
    obtain ⟨j, h3, h4⟩ := renFind_get _ _ _ _ _ hi
    rw [Nat.zero_add] at h3; subst h3
    refine ⟨h4, ?_⟩
    have := Nat.eq_of_beq_eq_true h1
    unfold Ctx.obj
    rw [objAt_low (O.low _ _ _ h4)]; exact this
  · cases h

theorem ren_obj (O : RenOk x ks) {i r g : Nat} (h : ks[i]? = some (some (r, g))) : (x.ren ks).obj i = newObj (renName ks x.σ) g (x.obj r) := by
  unfold Ctx.obj
  rw [objAt_low (O.lt h), objAt_low (O.low _ _ _ h)]
  unfold Ctx.ren renObjs
  rw [List.getD_eq_getElem?_getD, List.getElem?_map, h]; rfl
theorem ren_low {i : Nat} (hi : i < 64) (h : ∀ r g, ks[i]? ≠ some (some (r, g))) : (x.ren ks).obj i = .free := by
  unfold Ctx.obj
  rw [objAt_low hi]
  unfold Ctx.ren renObjs
  rw [List.getD_eq_getElem?_getD, List.getElem?_map]
  cases hk : ks[i]? with
  | none => rfl
  | some q =>
    cases q with
    | none => rfl
    | some q => exact absurd hk (h q.1 q.2)
theorem newObj_pool (f : Nat → Nat → Option (Nat × Nat)) (g : Nat) (o : AObj) : (newObj f g o).isPool = o.isPool := by cases o <;> rfl
theorem ren_virt (O : RenOk x ks) {i : Nat} (hi : 64 ≤ i) : (x.ren ks).obj i = .free ∨ ((x.ren ks).obj i = x.obj i ∧ (∃ g, ks[i % 64]? = some (some (i % 64, g)) ∧ (x.obj (i % 64)).isPool = true) ∧ ∃ t d, x.obj i = .box (.dat true t d)) := by
  have hp : i % 64 < 64 := Nat.mod_lt _ (by omega)
  rw [obj_virt _ hi]
  by_cases h : ∃ r g, ks[i % 64]? = some (some (r, g))
  · obtain ⟨r, g, h⟩ := h
    rw [ren_obj O h]
    cases hx : (x.obj r).isPool with
    | false => exact .inl (elemAt_not (by rw [newObj_pool, hx]) _)
    | true =>
      have e := O.pools _ _ _ h hx
      rw [e] at hx h ⊢
      have : newObj (renName ks x.σ) g (x.obj (i % 64)) = x.obj (i % 64) := by
        cases ho : x.obj (i % 64) <;> first | rfl | (rw [ho] at hx; cases hx)
      rw [this, obj_virt x hi]
      rcases elem_box (x.obj (i % 64)) (i / 64 - 1) with e | ⟨t, d, e⟩
      · exact .inl e
      · exact .inr ⟨rfl, ⟨g, h, hx⟩, t, d, e⟩
  · rw [ren_low hp fun r g e => h ⟨r, g, e⟩]; exact .inl rfl
theorem ren_μ (O : RenOk x ks) {i r g : Nat} (h : ks[i]? = some (some (r, g))) : (x.ren ks).μ i = x.μ r := by
  show (if i < 64 then (match ks[i]? with | some (some (r, _)) => x.μ r | _ => none) else x.μ i) = _
  rw [if_pos (O.lt h), h]
theorem ren_μv {i : Nat} (h : 64 ≤ i) : (x.ren ks).μ i = x.μ i := if_neg (by omega)
theorem ren_S : HS x (x.ren ks) := ⟨fun _ _ h => ⟨h, rfl⟩, fun _ _ _ h => h⟩
theorem newObj_live (f : Nat → Nat → Option (Nat × Nat)) (g : Nat) (o : AObj) : (newObj f g o).live = o.live := by cases o <;> rfl

theorem ren_names (O : RenOk x ks) : Names x (x.ren ks) (renName ks x.σ) := by
  refine ⟨fun r g r' g' p c h hp => ?_, fun r g r' g' c h hp => ?_, fun r g r' g' lo len ex c h hp => ?_, fun r r' g' c h hp => ?_⟩
  all_goals
    obtain ⟨h1, h3⟩ := renName_some O h
  · unfold PtrRel at hp ⊢
    rw [ren_obj O h1, ren_μ O h1]
    cases ho : x.obj r with
    | box v => rw [ho] at hp; simp only [newObj, AVal.told, firm_sh, refs_sh]; exact hp
    | arr g' t xs => rw [ho] at hp h3; simp only [newObj]; exact ⟨Nat.le_refl _, fun _ => hp.2 h3⟩
    | free => rw [ho] at hp; exact hp
    | _ => trivial
  · unfold SlcRel at hp ⊢
    rw [ren_obj O h1, ren_μ O h1]
    cases ho : x.obj r with
    | arr g' t xs => rw [ho] at hp h3; simp only [newObj]; exact ⟨Nat.le_refl _, fun _ => hp.2 h3⟩
    | free => rw [ho] at hp; exact hp
    | _ => trivial
  · unfold SubRel at hp ⊢
    rw [ren_obj O h1, ren_μ O h1]
    cases ho : x.obj r with
    | arr g' t xs => rw [ho] at hp h3; simp only [newObj]; exact ⟨Nat.le_refl _, fun _ => hp.2 h3⟩
    | free => rw [ho] at hp; exact hp
    | _ => trivial
  · unfold MapRel at hp ⊢
    rw [ren_obj O h1, ren_μ O h1]
    cases ho : x.obj r with
    | map K V m bs clk => rw [ho] at hp; simp only [newObj]; exact hp
    | iter v s l => rw [ho] at hp; simp only [newObj]; exact hp
    | vmap K m => rw [ho] at hp; simp only [newObj]; exact hp
    | free => rw [ho] at hp; exact hp
    | _ => trivial

/-- Where an object is now. -/
theorem ren_look (O : RenOk x ks) (i : Nat) : (∃ r g, ks[i]? = some (some (r, g))) ∨ (64 ≤ i ∧ (x.ren ks).obj i = x.obj i ∧ ∃ t d, x.obj i = .box (.dat true t d)) ∨ (x.ren ks).obj i = .free := by
  by_cases h : ∃ r g, ks[i]? = some (some (r, g))
  · exact .inl h
  · by_cases hi : i < 64
    · exact .inr (.inr (ren_low hi fun r g e => h ⟨r, g, e⟩))
    · rcases ren_virt O (Nat.le_of_not_lt hi) with h | ⟨h, _, h'⟩
      · exact .inr (.inr h)
      · exact .inr (.inl ⟨Nat.le_of_not_lt hi, h, h'⟩)

theorem ren_src (O : RenOk x ks) {i : Nat} {a : Addr} (l : ((x.ren ks).obj i).live = true) (m : (x.ren ks).μ i = some a) : ∃ r, (x.obj r).live = true ∧ x.μ r = some a := by
  rcases ren_look O i with ⟨r, g, hi⟩ | ⟨h1, h2, _⟩ | hi
  · rw [ren_obj O hi, newObj_live] at l; rw [ren_μ O hi] at m; exact ⟨r, l, m⟩
  · rw [h2] at l; rw [ren_μv h1] at m; exact ⟨i, l, m⟩
  · rw [hi] at l; cases l

theorem ren_mem (M : Mem x) (O : RenOk x ks) : Mem (x.ren ks) := by
  have src : ∀ i, ((x.ren ks).obj i).live = true → ∃ r, (x.obj r).live = true ∧ (x.ren ks).μ i = x.μ r ∧ ((∃ g, ks[i]? = some (some (r, g))) ∨ (64 ≤ i ∧ r = i)) := fun i l => by
    rcases ren_look O i with ⟨r, g, hi⟩ | ⟨h1, h2, _⟩ | hi
    · rw [ren_obj O hi, newObj_live] at l; exact ⟨r, l, ren_μ O hi, .inl ⟨g, hi⟩⟩
    · rw [h2] at l; exact ⟨i, l, ren_μv h1, .inr ⟨h1, rfl⟩⟩
    · rw [hi] at l; cases l
  refine ⟨fun i => ?_, fun i i' a a' hne l l' m m' => ?_, fun p b hb => ?_, M.sub, by show (ks.map _).length ≤ 64; rw [List.length_map]; exact O.len⟩
  · rcases ren_look O i with ⟨r, g, hi⟩ | ⟨h1, h2, t, d, h3⟩ | hi
    case inr.inr => rw [hi]; trivial
    case inr.inl =>
      have h := M.objs i
      rw [h3] at h
      rw [h2, h3]
      obtain ⟨b, c, e, k1, k2, k3, k4⟩ := h
      exact ⟨b, c, e, (ren_μv h1).trans k1, k2, Ty.Rel.congr (ren_S.t true) _ _ _ k3, rfl⟩
    rw [ren_obj O hi]
    have h := M.objs r
    cases ho : x.obj r with
    | box v =>
      rw [ho] at h
      obtain ⟨b, c, e, h1, h2, h3, h4⟩ := h
      exact ⟨b, c, e, (ren_μ O hi).trans h1, h2, firm_C _ _ (refs_C (x := x) (y := x.ren ks) ren_S (ren_names O) v _ h3), (firm_flat _).trans ((refs_flat _ v).trans h4)⟩
    | arr g' t xs =>
      rw [ho] at h
      rcases h with ⟨h1, h2⟩ | ⟨b, o, c, e, css, h1, h2, h3, h4⟩
      · exact .inl ⟨(ren_μ O hi).trans h1, h2⟩
      · exact .inr ⟨b, o, c, e, css, (ren_μ O hi).trans h1, h2, h3.mono fun _ _ h => h.congr (ren_S.t true), h4⟩
    | map K V m bs clk =>
      rw [ho] at h
      obtain ⟨b, es, h1, h2, h3, h4⟩ := h
      exact ⟨b, es, (ren_μ O hi).trans h1, h2, h3.mono fun _ _ h => ⟨DatV.congr ren_S h.1, DatV.congr ren_S h.2⟩, h4⟩
    | iter v s l =>
      rw [ho] at h
      obtain ⟨b, m, h1, h2, h3, h4⟩ := h
      exact ⟨b, m, (ren_μ O hi).trans h1, h2, firm_C _ _ (refs_C (x := x) (y := x.ren ks) ren_S (ren_names O) v _ h3), (firm_flat _).trans ((refs_flat _ v).trans h4)⟩
    | vmap K m =>
      rw [ho] at h
      obtain ⟨b, es, clk, h1, h2, h3⟩ := h
      exact ⟨b, es, clk, (ren_μ O hi).trans h1, h2, h3.mapL fun _ _ h => ⟨DatV.congr ren_S h.1, told_V ren_S (ren_names O) h.2⟩⟩
    | pool t xs =>
      have e := O.pools _ _ _ hi (by rw [ho]; rfl)
      subst e
      rw [ho] at h
      obtain ⟨h1, h2, h3, h4, h5⟩ := h
      refine ⟨h1, h2, (ren_μ O hi).trans h3, fun j hj => ?_, h5⟩
      obtain ⟨b, k1, k2⟩ := h4 j hj
      exact ⟨b, k1, (ren_μv (virt_ge r j)).trans k2⟩
    | dead => trivial
    | free => trivial
  · obtain ⟨r, k1, k2, k3⟩ := src i l
    obtain ⟨r', q1, q2, q3⟩ := src i' l'
    rw [k2] at m
    rw [q2] at m'
    refine M.apart r r' a a' (fun e => ?_) k1 q1 m m'
    subst e
    rcases k3 with ⟨g, hi⟩ | ⟨hi, e⟩ <;> rcases q3 with ⟨g', hi'⟩ | ⟨hi', e'⟩
    · exact hne (nodupK_inj ks O.nodup _ _ _ _ _ hi hi')
    · have := O.low _ _ _ hi; omega
    · have := O.low _ _ _ hi'; omega
    · exact hne (e.symm.trans e')
  · obtain ⟨h1, h2⟩ := M.still p b hb
    refine ⟨h1, fun i a l m => ?_⟩
    obtain ⟨r, k1, k2, _⟩ := src i l
    rw [k2] at m
    exact h2 r a k1 m

theorem ren_goes {x0 : Ctx} {w0 w : World} (G : Goes x0 w0 x w) (hf : renFits (x0.σ.map AObj.arr0) x.σ ks = true) : Goes x0 w0 (x.ren ks) w := by
  have O : RenOk x ks := renOk_of hf
  unfold renFits at hf
  rw [Bool.and_eq_true] at hf
  have hf := hf.2
  have M := ren_mem G.mem O
  refine { G with mem := M, S := ⟨G.S.on, G.S.at_⟩, at_ := G.at_, pl := G.pl, keeps := fun r => ?_, own := fun b hb => ?_ }
  · rcases Nat.lt_or_ge r x0.σ.length with hr | hr
    case inr =>
      rcases Nat.lt_or_ge r 64 with h64 | h64
      · refine Keeps.ofFree ?_
        unfold Ctx.obj
        rw [objAt_low h64, List.getD_eq_getElem?_getD, List.getElem?_eq_none hr]; rfl
      · -- an element of a pool
        rcases elem_box (x0.obj (r % 64)) (r / 64 - 1) with e | ⟨t, d, e⟩
        · exact .ofFree ((obj_virt x0 h64).trans e)
        have e0 : x0.obj r = .box (.dat true t d) := (obj_virt x0 h64).trans e
        have hp64 : r % 64 < 64 := Nat.mod_lt _ (by omega)
        have hpl : (x0.obj (r % 64)).isPool = true := by
          cases hx : (x0.obj (r % 64)).isPool with
          | true => rfl
          | false => rw [elemAt_not hx] at e; cases e
        have hpg : x0.σ.getD (r % 64) .free = x0.obj (r % 64) := (objAt_low hp64).symm
        have hpr : r % 64 < x0.σ.length := by
          rcases Nat.lt_or_ge (r % 64) x0.σ.length with h | h
          · exact h
          · rw [← hpg, List.getD_eq_getElem?_getD, List.getElem?_eq_none h] at hpl; cases hpl
        have h := List.all_eq_true.1 hf (r % 64) (List.mem_range.2 (by simpa using hpr))
        split at h
        case h_2 => cases h
        rename_i r' g' hi
        have hr' : r' = r % 64 := by
          rcases Bool.or_eq_true_iff.1 h with h | h
          · rw [Bool.and_eq_true] at h; exact Nat.eq_of_beq_eq_true h.1
          · rw [Bool.and_eq_true, Bool.and_eq_true] at h
            have h2 := h.1.1
            have e2 : x0.σ[r % 64]? = some (x0.obj (r % 64)) := by rw [← hpg, List.getD_eq_getElem?_getD, List.getElem?_eq_getElem hpr]; rfl
            rw [List.getD_eq_getElem?_getD, List.getElem?_map, e2] at h2
            cases ho : x0.obj (r % 64) <;> first | (rw [ho] at h2; cases h2) | (rw [ho] at hpl; cases hpl)
        subst hr'
        have K := G.keeps r
        have kbox : x.obj r = .free ∨ ∃ t d, x.obj r = .box (.dat true t d) := by rw [obj_virt x h64]; exact elem_box _ _
        have same : x.obj r ≠ .free → (x.ren ks).obj r = x.obj r ∧ ∃ t d, x.obj r = .box (.dat true t d) := fun hne => by
          rcases kbox with e | ⟨t, d, e⟩
          · exact (hne e).elim
          have hx : (x.obj (r % 64)).isPool = true := by
            cases hx : (x.obj (r % 64)).isPool with
            | true => rfl
            | false => rw [obj_virt x h64, elemAt_not hx] at e; cases e
          refine ⟨?_, t, d, e⟩
          rw [obj_virt _ h64, ren_obj O hi, obj_virt x h64]
          congr 1
          cases ho : x.obj (r % 64) <;> first | rfl | (rw [ho] at hx; cases hx)
        refine ⟨fun g p c hp => ?_, fun g c hp => ?_, fun g lo len ex c hp => ?_, fun c hp => ?_⟩
        · have hp := K.ptr _ _ _ hp
          obtain ⟨hs, _⟩ := same fun e => by unfold PtrRel at hp; rw [e] at hp; exact hp
          unfold PtrRel at hp ⊢
          rw [hs, ren_μv h64]; exact hp
        · have hp := K.slc _ _ hp
          obtain ⟨hs, t', d', e'⟩ := same fun e => by unfold SlcRel at hp; rw [e] at hp; exact hp
          unfold SlcRel; rw [hs, e']; trivial
        · have hp := K.sub _ _ _ _ _ hp
          obtain ⟨hs, t', d', e'⟩ := same fun e => by unfold SubRel at hp; rw [e] at hp; exact hp
          unfold SubRel; rw [hs, e']; trivial
        · have hp := K.map _ hp
          obtain ⟨hs, t', d', e'⟩ := same fun e => by unfold MapRel at hp; rw [e] at hp; exact hp
          unfold MapRel; rw [hs, e']; trivial
    have h := List.all_eq_true.1 hf r (List.mem_range.2 (by simpa using hr))
    split at h
    case h_2 => cases h
    rename_i r' g' hi
    have K := G.keeps r
    rcases Bool.or_eq_true_iff.1 h with h | h
    · rw [Bool.and_eq_true] at h
      obtain ⟨h1, h⟩ := h
      obtain rfl := Nat.eq_of_beq_eq_true h1
      obtain rfl : g' = genOf (x.obj r') := by unfold Ctx.obj; rw [objAt_low (O.low _ _ _ hi)]; exact Nat.eq_of_beq_eq_true h
      refine ⟨fun g p c hp => ?_, fun g c hp => ?_, fun g lo len ex c hp => ?_, fun c hp => ?_⟩
      · have hp := K.ptr _ _ _ hp
        unfold PtrRel at hp ⊢
        rw [ren_obj O hi, ren_μ O hi]
        cases ho : x.obj r' with
        | box v => rw [ho] at hp; simp only [newObj, AVal.told, firm_sh, refs_sh]; exact hp
        | arr g' t xs => rw [ho] at hp; simp only [newObj]; exact hp
        | free => rw [ho] at hp; exact hp
        | _ => trivial
      · have hp := K.slc _ _ hp
        unfold SlcRel at hp ⊢
        rw [ren_obj O hi, ren_μ O hi]
        cases ho : x.obj r' with
        | arr g' t xs => rw [ho] at hp; simp only [newObj]; exact hp
        | free => rw [ho] at hp; exact hp
        | _ => trivial
      · have hp := K.sub _ _ _ _ _ hp
        unfold SubRel at hp ⊢
        rw [ren_obj O hi, ren_μ O hi]
        cases ho : x.obj r' with
        | arr g' t xs => rw [ho] at hp; simp only [newObj]; exact hp
        | free => rw [ho] at hp; exact hp
        | _ => trivial
      · have hp := K.map _ hp
        unfold MapRel at hp ⊢
        rw [ren_obj O hi, ren_μ O hi]
        cases ho : x.obj r' with
        | map K V m bs clk => rw [ho] at hp; simp only [newObj]; exact hp
        | iter v s l => rw [ho] at hp; simp only [newObj]; exact hp
        | vmap K m => rw [ho] at hp; simp only [newObj]; exact hp
        | free => rw [ho] at hp; exact hp
        | _ => trivial
    · rw [Bool.and_eq_true, Bool.and_eq_true] at h
      obtain ⟨⟨h2, h3⟩, h4⟩ := h
      have h2 : (x0.obj r).arr0 = true := by
        have e : x0.σ[r]? = some (x0.obj r) := by unfold Ctx.obj; rw [objAt_low (O.lt hi), List.getD_eq_getElem?_getD, List.getElem?_eq_getElem hr]; rfl
        rw [List.getD_eq_getElem?_getD, List.getElem?_map, e] at h2; exact h2
      have h3 : (x.obj r').isArr = true := by unfold Ctx.obj; rw [objAt_low (O.low _ _ _ hi)]; exact h3
      have h4 : 0 < g' := by simpa [Nat.blt_eq] using h4
      cases ho : x0.obj r with
      | arr g0 t0 xs0 =>
        rw [ho] at h2
        obtain rfl : g0 = 0 := Nat.eq_of_beq_eq_true h2
        cases hx : x.obj r' with
        | arr g1 t xs =>
          refine ⟨fun g p c hp => ?_, fun g c hp => ?_, fun g lo len ex c hp => ?_, fun c hp => ?_⟩
          · unfold PtrRel at hp ⊢
            rw [ho] at hp
            rw [ren_obj O hi, hx]
            exact ⟨Nat.le_trans hp.1 (Nat.zero_le _), fun e => absurd (Nat.le_zero.1 hp.1) (by omega)⟩
          · unfold SlcRel at hp ⊢
            rw [ho] at hp
            rw [ren_obj O hi, hx]
            exact ⟨Nat.le_trans hp.1 (Nat.zero_le _), fun e => absurd (Nat.le_zero.1 hp.1) (by omega)⟩
          · unfold SubRel at hp ⊢
            rw [ho] at hp
            rw [ren_obj O hi, hx]
            exact ⟨Nat.le_trans hp.1 (Nat.zero_le _), fun e => absurd (Nat.le_zero.1 hp.1) (by omega)⟩
          · unfold MapRel
            rw [ren_obj O hi, hx]; trivial
        | _ => rw [hx] at h3; cases h3
      | _ => rw [ho] at h2; cases h2
  · obtain ⟨i, a, l, m, e⟩ := hb
    obtain ⟨r, l', m'⟩ := ren_src O l m
    exact G.own b ⟨r, a, l', m', e⟩
end

/-- What is still needed, and the objects' new names and generations. -/
structure Norm where
  live : List Nat
  ks : List (Option (Nat × Nat))

def slotsAt : List Nat → List AVal → Nat → Option AVal
  | i :: l, v :: vs, j => bif Nat.beq j i then some v else slotsAt l vs j
  | _, _, _ => none

section
variable {R : Type}

def liveK (f : Nat → Nat → Option (Nat × Nat)) (s : Nat → Option AVal) : List Nat → (List AVal → Option R) → Option R
  | [], k => k []
  | i :: l, k => match s i with
    | some v => liveK f s l fun rest => k (v.told f :: rest)
    | none => none

def tellK (g0 : List Bool) (nm : Norm) (st : St) (k : List AVal → List AObj → Option R) : Option R :=
  bif renFits g0 st.σ nm.ks then liveK (renName nm.ks st.σ) st.slots nm.live fun l => k l (renObjs nm.ks st.σ) else none

def normK (g0 : List Bool) (nm : Norm) (st : St) (k : St → Option R) : Option R := tellK g0 nm st fun l os => k ⟨slotsAt nm.live l, os⟩

theorem liveK_inv {f : Nat → Nat → Option (Nat × Nat)} {s : Nat → Option AVal} : ∀ (l : List Nat) {k : List AVal → Option R} {z : R}, liveK f s l k = some z → ∃ sl, k sl = some z ∧ (∀ i v', slotsAt l sl i = some v' → ∃ v, s i = some v ∧ v' = v.told f) ∧ ∀ (R' : Type) (k' : List AVal → Option R'), liveK f s l k' = k' sl := by
  intro l
  induction l with
  | nil => intro k z h; exact ⟨[], h, (fun i v' h => by cases h), fun _ _ => rfl⟩
  | cons i l ih =>
    intro k z h
    unfold liveK at h
    split at h
    · rename_i v hv
      obtain ⟨sl, h1, h2, h3⟩ := ih h
      refine ⟨_, h1, fun j v' hj => ?_, fun R' k' => ?_⟩
      · simp only [slotsAt] at hj
        cases hb : Nat.beq j i with
        | true => rw [hb] at hj; cases hj; rw [Nat.eq_of_beq_eq_true hb]; exact ⟨v, hv, rfl⟩
        | false => rw [hb] at hj; exact h2 j v' hj
      · simp only [liveK, hv]; exact h3 R' _
    · cases h

theorem tellK_inv {g0 : List Bool} {nm : Norm} {st : St} {k : List AVal → List AObj → Option R} {z : R} (h : tellK g0 nm st k = some z) :
    ∃ vs os, k vs os = some z ∧ (∀ (R' : Type) (k' : List AVal → List AObj → Option R'), tellK g0 nm st k' = k' vs os) ∧ renFits g0 st.σ nm.ks = true ∧ os = renObjs nm.ks st.σ ∧ ∀ i v', slotsAt nm.live vs i = some v' → ∃ v, st.slots i = some v ∧ v' = v.told (renName nm.ks st.σ) := by
  unfold tellK at h
  obtain ⟨h1, h⟩ := cond_some h
  obtain ⟨sl, h2, h3, h4⟩ := liveK_inv _ h
  refine ⟨sl, _, h2, fun R' k' => ?_, h1, rfl, h3⟩
  unfold tellK; rw [h1]; exact h4 R' _

theorem Marked.ren {x : Ctx} {w0 w : World} {ds : List Deferred} (M : Marked x w0 w ds) {ks : List (Option (Nat × Nat))} (O : RenOk x ks) : Marked (x.ren ks) w0 w ds := by
  refine ⟨fun d hd => ?_, M.apart⟩
  obtain ⟨D, h1, h2, h3, h4, h5, h6⟩ := M.each d hd
  refine ⟨D, h1, h2, h3, h4, fun ⟨i, a, l, m, e⟩ => ?_, h6⟩
  obtain ⟨r, l', m'⟩ := ren_src O l m
  exact h5 ⟨r, a, l', m', e⟩

theorem tell_sound {x0 : Ctx} {w0 : World} {N : Nat} {nm : Norm} {st : St} {k : List AVal → List AObj → Option R} {z : R} (h : tellK (x0.σ.map AObj.arr0) nm st k = some z) {a : Act} {w : World} (C : Conc x0 w0 N st a w) : ∃ vs os, k vs os = some z ∧ Conc x0 w0 N ⟨slotsAt nm.live vs, os⟩ a w := by
  obtain ⟨vs, os, h1, _, h2, h3, h4⟩ := tellK_inv h
  obtain ⟨⟨x, hσ, G, hdf, hs⟩, hsz⟩ := C
  refine ⟨vs, os, h1, ⟨x.ren nm.ks, ?_, ren_goes G (by rw [hσ]; exact h2), hdf.ren (renOk_of (by rw [hσ]; exact h2)), fun i v' hv => ?_⟩, hsz⟩
  · show renObjs nm.ks x.σ = os
    rw [h3, hσ]
  · obtain ⟨v, h5, rfl⟩ := h4 i v' hv
    obtain ⟨u, h6, h7⟩ := hs i v h5
    refine ⟨u, h6, ?_⟩
    rw [← hσ]
    exact told_V ren_S (ren_names (renOk_of (g0 := x0.σ.map AObj.arr0) (by rw [hσ]; exact h2))) h7

theorem norm_sound {x0 : Ctx} {w0 : World} {N : Nat} {nm : Norm} {st : St} {k : St → Option R} {z : R} (h : normK (x0.σ.map AObj.arr0) nm st k = some z) {a : Act} {w : World} (C : Conc x0 w0 N st a w) : ∃ st', k st' = some z ∧ Conc x0 w0 N st' a w := by
  obtain ⟨vs, os, h1, C1⟩ := tell_sound h C
  exact ⟨_, h1, C1⟩
end
end Go.Am

/- The abstract machine: a state's values told otherwise: slices that are nil as empty rows, rows as data. -/
namespace Go.Am

/-- Where a value lies: in a slot, in a variable; and the way to it. -/
inductive Loc where
  | slot (i : Nat) (p : Path)
  | box (r : Nat) (p : Path)

inductive Coe where
  | empty (l : Loc) (r : Nat) (τ : Ty)
  | dat (l : Loc) (t : Ty)
  | weak (l : Loc)
  | freeze (l : Loc)
  | cut (l : Loc)
  /-- asks how many entries a map of references has -/
  | keys (r n : Nat)
  /-- a variable becomes a pool's last element -/
  | push (l : Loc) (r p : Nat)

section defs
variable {R : Type}

def locGet (st : St) : Loc → (AVal → Option R) → Option R
  | .slot i p, k => match st.slots i with
    | some v => v.getK p k
    | none => none
  | .box r p, k => match st.σ[r]? with
    | some (.box v) => v.getK p k
    | _ => none

def locSet (st : St) : Loc → AVal → (St → Option R) → Option R
  | .slot i p, u, k => match st.slots i with
    | some v => v.setK p u fun v' => bif v'.agg == v.agg then k ⟨put st.slots (some i) (some v'), st.σ⟩ else none
    | none => none
  | .box r p, u, k => match st.σ[r]? with
    | some (.box v) => v.setK p u fun v' => bif v'.flat then k ⟨st.slots, st.σ.set r (.box v')⟩ else none
    | _ => none

def coeK (c : Coe) (st : St) (k : St → Option R) : Option R :=
  match c with
  | .empty l r τ => locGet st l fun
    | .nils => match st.σ[r]? with
      | some .free => locSet ⟨st.slots, st.σ.set r (.arr 0 τ [])⟩ l (.slc r 0) k
      | _ => none
    | _ => none
  | .dat l t => locGet st l fun u => match toDat t u with
    | some d => locSet st l (.dat true t d) k
    | none => none
  | .weak l => locGet st l fun
    | .dat _ t d => locSet st l (.dat false t d) k
    | _ => none
  | .freeze l => locGet st l fun
    | .slc r g => match st.σ[r]? with
      | some (.arr g' τ xs) => bif Nat.beq g g' then locSet ⟨st.slots, st.σ.set r .dead⟩ l (.dat true (.slice τ) xs) k else none
      | _ => none
    | .sub r g lo len _ => match st.σ[r]? with
      | some (.arr g' τ xs) => bif Nat.beq g g' then locSet ⟨st.slots, st.σ.set r .dead⟩ l (.dat true (.slice τ) ((xs.drop lo).take len)) k else none
      | _ => none
    | _ => none
  | .keys r n => match st.σ[r]? with
    | some (.vmap _ m) => bif Nat.beq m.length n then k st else none
    | _ => none
  | .push l r p => locGet st l fun
    | .ptr r' _ [] => bif Nat.beq r' r then (match st.σ[r]?, st.σ[p]? with
      | some (.box v), some (.pool t xs) => match toDat t v with
        | some d => locSet ⟨st.slots, (st.σ.set r .dead).set p (.pool t (xs ++ [d]))⟩ l (.dat true (.pref p) (some xs.length)) k
        | none => none
      | _, _ => none) else none
    | _ => none
  | .cut l => locGet st l fun
    | .sub r g lo len false => match st.σ[r]? with
      | some (.arr g' τ xs) => bif Nat.beq g g' && Nat.blt lo xs.length then locSet ⟨st.slots, st.σ.set r (.arr (g' + 1) τ ((xs.drop lo).take len))⟩ l (.slc r (g' + 1)) k else none
      | _ => none
    | _ => none
end defs

section
variable {R : Type}

theorem locGet_inv {st : St} {l : Loc} {k : AVal → Option R} {z : R} (h : locGet st l k = some z) : ∃ u, locGet st l some = some u ∧ k u = some z := by
  unfold locGet at h ⊢
  cases l with
  | slot i p =>
    simp only at h ⊢
    split at h
    · obtain ⟨u, h1, h2⟩ := getK_inv _ _ _ _ h; exact ⟨u, h1, h2⟩
    · cases h
  | box r p =>
    simp only at h ⊢
    split at h
    · obtain ⟨u, h1, h2⟩ := getK_inv _ _ _ _ h; exact ⟨u, h1, h2⟩
    · cases h

theorem respell {x y : Ctx} {v u u' v' : AVal} {p : Path} {cs : List Value} (hC : v.C x cs) (hCy : v.C y cs) (hget : v.getK p some = some u) (hset : v.setK p u' some = some v') (hu : ∀ c, u.C x c → u'.C y c) : v'.C y cs ∧ v'.sh = v.sh := by
  obtain ⟨o, ho, pre, mid, post, rfl, hp, hm⟩ := getK_sound p v u cs hC hget
  obtain ⟨hsh, o', ho', pre', mid', post', e, hp', hl, hv⟩ := setK_sound p v u' v' _ hCy hset mid (hu mid hm)
  rw [ho] at ho'
  simp only [Option.some.injEq, Prod.mk.injEq] at ho'
  obtain ⟨_, rfl⟩ := ho'
  rw [List.append_assoc, List.append_assoc] at e
  obtain ⟨e1, e⟩ := List.append_inj e (hp.trans hp'.symm)
  obtain ⟨e2, e3⟩ := List.append_inj e hl.symm
  subst e1 e2 e3
  exact ⟨hv, hsh⟩

/-- One variable's value is told otherwise. -/
theorem goes_box {x : Ctx} {w : World} (M : Mem x) (hh : x.h = fun b => w.heap[b]?) {r : Nat} {v v' : AVal} (h0 : x.σ[r]? = some (.box v)) (hsh : v'.sh = v.sh) (hf : v'.flat = true) (hC : ∀ b (c : Array Value) e, x.μ r = some ⟨b, 0, none⟩ → x.h b = some (.cells c e (0, 0)) → v.C x c.toList → v'.C x c.toList) : Goes x w { x with σ := x.σ.set r (.box v') } w := by
  have hob : ∀ r', ({ x with σ := x.σ.set r (.box v') } : Ctx).obj r' = if r' = r then .box v' else x.obj r' := fun r' => obj_set (M.low h0) h0 rfl rfl
  have hobj := obj_of_get M h0
  have U0 : Upd0 x { x with σ := x.σ.set r (.box v') } r := {
    S := rfl
    at_ := rfl
    pl := rfl
    low := M.low h0
    len := List.length_set
    obj := fun r' hr => by rw [hob, if_neg hr]
    μ := fun r' hr => rfl
    h := fun b hs hne => rfl
    keep := by
      refine ⟨fun g p c k => ?_, fun g c k => ?_, fun g lo len ex c k => ?_, fun c k => ?_⟩
      · unfold PtrRel at k ⊢; rw [hobj] at k; rw [hob, if_pos rfl]; simp only [hsh]; exact k
      · unfold SlcRel; rw [hob, if_pos rfl]; trivial
      · unfold SubRel; rw [hob, if_pos rfl]; trivial
      · unfold MapRel; rw [hob, if_pos rfl]; trivial
    blk := fun a' _ ha' => .inl ⟨a', by rw [hobj]; rfl, ha', rfl⟩ }
  have hrel := M.objs r
  rw [hobj] at hrel
  obtain ⟨b, c, e, h1, h2, h3, h4⟩ := hrel
  have U : Upd x { x with σ := x.σ.set r (.box v') } r := ⟨U0, by
    rw [hob, if_pos rfl]
    exact ⟨b, c, e, h1, h2, (hC b c e h1 h2 h3).mono (U0.hS M) (U0.keeps M), hf⟩⟩
  exact U.goes M hh hh rfl rfl rfl (Nat.le_refl _)

theorem slots_mono {x y : Ctx} {w : World} {tmps : Array Value} {s : Nat → Option AVal} (G : Goes x w y w) (h : ∀ i v, s i = some v → ∃ u, tmps[i]? = some u ∧ v.V x u) : ∀ i v, s i = some v → ∃ u, tmps[i]? = some u ∧ v.V y u := by
  intro i v hv
  obtain ⟨u, h1, h2⟩ := h i v hv
  exact ⟨u, h1, V_of_C rfl (fun cs hc => hc.mono G.S G.keeps) h2⟩

theorem locSet_sound {st : St} {σ1 : List AObj} {l : Loc} {u u' : AVal} {k : St → Option R} {z : R} {x x1 : Ctx} {w : World} {tmps : Array Value} (M : Mem x) (hh : x.h = fun b => w.heap[b]?) (G1 : Goes x w x1 w) (hσ : x.σ = st.σ) (hσ1 : x1.σ = σ1)
    (hbox : ∀ (r : Nat) (v : AVal), σ1[r]? = some (AObj.box v) → st.σ[r]? = some (AObj.box v)) (hs : ∀ i v, st.slots i = some v → ∃ u, tmps[i]? = some u ∧ v.V x u)
    (hget : locGet st l some = some u) (hset : locSet ⟨st.slots, σ1⟩ l u' k = some z) (hu : ∀ c, u.C x c → u'.C x1 c) :
    ∃ st' x', k st' = some z ∧ x'.σ = st'.σ ∧ Goes x w x' w ∧ ∀ i v, st'.slots i = some v → ∃ u, tmps[i]? = some u ∧ v.V x' u := by
  have hs1 := slots_mono G1 hs
  cases l with
  | slot i p =>
    simp only [locGet, locSet] at hget hset
    cases hi : st.slots i with
    | none => rw [hi] at hget; cases hget
    | some v =>
      rw [hi] at hget hset
      simp only at hset
      obtain ⟨v', hset2, hk⟩ := setK_inv _ _ _ _ _ hset
      obtain ⟨hag, hk⟩ := cond_some hk
      have hag : v'.agg = v.agg := beq_iff_eq.1 hag
      refine ⟨_, x1, hk, hσ1, G1, fun j v2 hv2 => ?_⟩
      simp only [put] at hv2
      cases hj : Nat.beq j i with
      | false => rw [hj] at hv2; exact hs1 j v2 hv2
      | true =>
        rw [hj] at hv2
        simp only [cond_true, Option.some.injEq] at hv2
        subst hv2
        obtain rfl := Nat.eq_of_beq_eq_true hj
        obtain ⟨uu, h1, h2⟩ := hs j v hi
        refine ⟨uu, h1, ?_⟩
        have hmono : ∀ cs, v.C x cs → v.C x1 cs := fun cs hc => hc.mono G1.S G1.keeps
        exact V_of_C hag (fun cs hc => (respell hc (hmono cs hc) hget hset2 hu).1) h2
  | box r p =>
    simp only [locGet, locSet] at hget hset
    split at hset
    case h_2 => cases hset
    rename_i v hr1
    have hr := hbox r v hr1
    rw [hr] at hget
    simp only at hget
    obtain ⟨v', hset, hk⟩ := setK_inv _ _ _ _ _ hset
    obtain ⟨hf, hk⟩ := cond_some hk
    have h0 : x.σ[r]? = some (.box v) := by rw [hσ]; exact hr
    have h1 : x1.σ[r]? = some (.box v) := by rw [hσ1]; exact hr1
    -- what the variable holds lies the same in both states
    have hrel := M.objs r
    rw [obj_of_get M h0] at hrel
    obtain ⟨b, c, e, k1, k2, k3, k4⟩ := hrel
    have hrel1 := G1.mem.objs r
    rw [obj_of_get G1.mem h1] at hrel1
    obtain ⟨b1, c1, e1, m1, m2, m3, m4⟩ := hrel1
    have hmu : PtrRel x r 0 [] (ptrTo ⟨b, 0, none⟩ 0) := by
      unfold PtrRel; rw [obj_of_get M h0]; exact ⟨_, v.sh, 0, k1, by unfold Sh.at; rfl, rfl⟩
    have hmu1 := (G1.keeps r).ptr _ _ _ hmu
    unfold PtrRel at hmu1
    rw [obj_of_get G1.mem h1] at hmu1
    obtain ⟨a2, s2, o2, n1, n2, n3⟩ := hmu1
    rw [m1] at n1; cases n1
    unfold Sh.at at n2
    cases n2
    simp only [ptrTo, Value.pointer.injEq, Option.some.injEq, Addr.mk.injEq, and_true] at n3
    obtain ⟨rfl, _⟩ := n3
    have hsame : c1 = c := by
      have e1 : x1.h b = x.h b := by rw [G1.h, hh]
      rw [m2, k2] at e1; cases e1; rfl
    subst hsame
    obtain ⟨hk3, hsh⟩ := respell k3 m3 hget hset hu
    have G2 := goes_box (w := w) G1.mem G1.h h1 hsh hf (fun b2 c2 e2 q1 q2 _ => by
      rw [m1] at q1; cases q1
      rw [m2] at q2; cases q2
      exact hk3)
    exact ⟨_, _, hk, by show x1.σ.set r _ = _; rw [hσ1], G1.trans G2, slots_mono G2 hs1⟩

/-- Data that are the call's own are no one's to write: a row is told as data, and is let go. -/
theorem goes_freeze {x : Ctx} {w : World} (M : Mem x) (hh : x.h = fun b => w.heap[b]?) {r g' : Nat} {τ : Ty} {xs : List τ.den} (h0 : x.σ[r]? = some (.arr g' τ xs)) :
    ∃ x1, Goes x w x1 w ∧ x1.σ = x.σ.set r .dead ∧ (∀ c, (AVal.slc r g').C x c → (AVal.dat true (.slice τ) xs).C x1 c) ∧
      ∀ lo len ex c, (AVal.sub r g' lo len ex).C x c → (AVal.dat true (.slice τ) ((xs.drop lo).take len)).C x1 c := by
  have hobj := obj_of_get M h0
  have hrel := M.objs r
  rw [hobj] at hrel
  let x1 : Ctx := { h := x.h, S := fun p b => x.S p b ∨ ∃ a, x.μ r = some a ∧ a.block = b, μ := x.μ, σ := x.σ.set r .dead, at_ := x.at_, pl := x.pl }
  have hob : ∀ r', x1.obj r' = if r' = r then .dead else x.obj r' := fun r' => obj_set (M.low h0) h0 rfl rfl
  have hS : HS x x1 := ⟨fun p b h => ⟨.inl h, rfl⟩, fun _ _ _ h => h⟩
  have hk : ∀ r', Keeps x x1 r' := fun r' => by
    by_cases e : r' = r
    · subst e; exact .toDead (by rw [hob, if_pos rfl])
    · exact .same (by rw [hob, if_neg e]) rfl fun a n _ _ h => h
  have hlive : ∀ r', (x1.obj r').live = true → r' ≠ r ∧ (x.obj r').live = true := fun r' h => by
    rw [hob] at h
    by_cases e : r' = r
    · rw [if_pos e] at h; cases h
    · rw [if_neg e] at h; exact ⟨e, h⟩
  have hmem : Mem x1 := {
    objs := fun r' => by
      rw [hob]
      by_cases e : r' = r
      · rw [if_pos e]; trivial
      · rw [if_neg e]; exact ObjRel.congr hS hk rfl (fun _ _ _ => rfl) (fun _ => ⟨fun _ => rfl, rfl, rfl⟩) (M.objs r')
    apart := fun r1 r2 a1 a2 hne l1 l2 m1 m2 => M.apart r1 r2 a1 a2 hne (hlive _ l1).2 (hlive _ l2).2 m1 m2
    still := fun p b hb => by
      rcases hb with hb | ⟨a, ha, rfl⟩
      · exact ⟨(M.still p b hb).1, fun r' a l m => (M.still p b hb).2 r' a (hlive _ l).2 m⟩
      · exact ⟨M.there (by rw [hobj]; rfl) ha, fun r' a' l m => M.apart r' r a' a (hlive _ l).1 (hlive _ l).2 (by rw [hobj]; rfl) m ha⟩
    sub := fun b hb => hb.elim (fun h => .inl (M.sub b h)) .inr
    len := by show (x.σ.set r .dead).length ≤ 64; rw [List.length_set]; exact M.len }
  have G : Goes x w x1 w := {
    mem := hmem
    h := hh
    S := hS
    pl := rfl
    at_ := fun _ _ => rfl
    keeps := hk
    os := rfl
    tape := rfl
    output := rfl
    size := Nat.le_refl _
    frame := fun b hb _ => rfl
    own := fun b ⟨r', a, l, m, e⟩ => .inl ⟨r', a, (hlive _ l).2, m, e⟩
    newS := fun p b hb => by
      rcases hb with hb | ⟨a, ha, e⟩
      · exact .inl hb
      · exact .inr (.inl ⟨r, a, by rw [hobj]; rfl, ha, e⟩) }
  refine ⟨x1, G, rfl, fun c hc => ?_, fun lo len ex c hc => ?_⟩
  · obtain ⟨c0, rfl, _, hs⟩ := hc
    unfold SlcRel at hs
    rw [hobj] at hs
    have hs := hs.2 rfl
    rcases hrel with ⟨h1, h2⟩ | ⟨b, o, c, e, css, h1, h2, A, pre, post, h4, h5⟩
    · subst h2
      simp only [h1] at hs
      obtain ⟨b, rfl⟩ := hs
      exact ⟨b, 0, 0, rfl, rfl, Nat.le_refl _, fun _ => rfl, fun h => absurd h (Nat.lt_irrefl _)⟩
    · simp only [h1] at hs
      obtain ⟨cap, rfl, e2, _⟩ := hs
      exact ⟨_, _, cap, rfl, rfl, e2, (fun h => by cases h), fun _ => ⟨b, o, rfl, .inr ⟨_, h1, rfl⟩, css, ⟨c, e, _, h2, fun j v hj => by rw [← h5]; exact all2_drop_get h4 j hj⟩, A.mono fun _ _ h => h.congr (hS.t true)⟩⟩
  · obtain ⟨c0, rfl, _, hs⟩ := hc
    unfold SubRel at hs
    rw [hobj] at hs
    obtain ⟨hle, base, cap, rfl, e2, _, _, e3, e4⟩ := hs.2 rfl
    have hlen : ((xs.drop lo).take len).length = len := by rw [List.length_take, List.length_drop]; omega
    refine ⟨base, len, cap, rfl, hlen.symm, e2, e3, fun hp => ?_⟩
    rcases hrel with ⟨h1, h2⟩ | ⟨b, o, c, e, css, h1, h2, A, pre, post, h4, h5⟩
    · subst h2; simp only [List.length_nil] at hle; omega
    · cases base with
      | none => have := e3 rfl; omega
      | some b0 =>
        obtain ⟨a0, f1, f2, _⟩ := e4 b0 rfl (by omega)
        rw [h1] at f1; cases f1
        rw [add_mk] at f2; subst f2
        have hA := take_take_all2 (drop_all2 A lo) len
        refine ⟨b, _, rfl, .inr ⟨_, h1, rfl⟩, (css.drop lo).take len, ⟨c, e, _, h2, fun j v hj => ?_⟩, hA.mono fun _ _ h => h.congr (hS.t true)⟩
        have hsplit : css.flatten = (css.take lo).flatten ++ ((css.drop lo).take len).flatten ++ ((css.drop lo).drop len).flatten := by
          conv => lhs; rw [← List.take_append_drop lo css, ← List.take_append_drop len (css.drop lo)]
          simp [List.flatten_append, List.append_assoc]
        have hpl : (css.take lo).flatten.length = lo * τ.size := by
          rw [flatten_length (n := τ.size) (fun d hd => A.lengths d (List.mem_of_mem_take hd)), List.length_take, ← A.1, Nat.min_eq_left (by omega)]
        have := all2_drop_get (c := c) (pre := pre ++ (css.take lo).flatten) (mid := ((css.drop lo).take len).flatten) (post := ((css.drop lo).drop len).flatten ++ post) (by rw [h4, hsplit]; simp [List.append_assoc]) j hj
        rw [List.length_append, h5, hpl] at this; exact this

theorem set_box {σ : List AObj} {r0 : Nat} {o : AObj} (ho : ∀ v, o ≠ .box v) : ∀ (r : Nat) (v : AVal), (σ.set r0 o)[r]? = some (AObj.box v) → σ[r]? = some (AObj.box v) := by
  intro r v h
  rw [List.getElem?_set] at h
  split at h
  · split at h
    · simp only [Option.some.injEq] at h; exact absurd h (ho v)
    · cases h
  · exact h

/-- A variable becomes a pool's last element. -/
theorem goes_push {x : Ctx} {w : World} (M : Mem x) (hh : x.h = fun b => w.heap[b]?) {r p : Nat} {v : AVal} {t : Ty} {xs : List t.den} {d : t.den} (h0 : x.σ[r]? = some (.box v)) (hp : x.σ[p]? = some (.pool t xs)) (hd : toDat t v = some d) :
    ∃ x1, Goes x w x1 w ∧ x1.σ = (x.σ.set r .dead).set p (.pool t (xs ++ [d])) ∧ ∀ g c, (AVal.ptr r g []).C x c → (AVal.dat true (.pref p) (some xs.length)).C x1 c := by
  have hr64 := M.low h0
  have hp64 := M.low hp
  have hne : r ≠ p := fun e => by subst e; rw [h0] at hp; cases hp
  have hro := obj_of_get M h0
  have hpo := obj_of_get M hp
  have hrel := M.objs r
  rw [hro] at hrel
  obtain ⟨b, c, e, k1, k2, k3, k4⟩ := hrel
  have hprel := M.objs p
  rw [hpo] at hprel
  obtain ⟨q1, q2, q3, q4, q5⟩ := hprel
  let V := virt p xs.length
  let x1 : Ctx := { h := x.h, S := x.S, μ := fun r' => if r' = V then x.μ r else x.μ r', σ := (x.σ.set r .dead).set p (.pool t (xs ++ [d])), at_ := fun p' j => if p' = p ∧ j = xs.length then some b else x.at_ p' j, pl := x.pl }
  have hV64 : 64 ≤ V := virt_ge p xs.length
  have hVo : x.obj V = .free := by
    rw [obj_virt x hV64, show V % 64 = p from virt_mod hp64, show V / 64 - 1 = xs.length from virt_div hp64, hpo]
    simp [elemAt]
  have hp' : (x.σ.set r .dead)[p]? = some (.pool t xs) := by rw [List.getElem?_set, if_neg hne]; exact hp
  have hget : ∀ q, ((x.σ.set r .dead).set p (.pool t (xs ++ [d]))).getD q .free = if q = p then .pool t (xs ++ [d]) else if q = r then .dead else x.σ.getD q .free := fun q => by
    rw [getD_set hp', getD_set h0]
  have hob : ∀ r', x1.obj r' = if r' = p then .pool t (xs ++ [d]) else if r' = r then .dead else if r' = V then .box (.dat true t d) else x.obj r' := fun r' => by
    by_cases h : r' < 64
    · show objAt _ r' = _
      rw [objAt_low h, hget]
      have : r' ≠ V := by omega
      rw [if_neg this]
      have : x.obj r' = x.σ.getD r' .free := objAt_low h
      rw [this]
    · have h := Nat.le_of_not_lt h
      rw [if_neg (by omega), if_neg (by omega)]
      have e0 : x1.obj r' = elemAt (x1.σ.getD (r' % 64) .free) (r' / 64 - 1) := by
        show objAt _ r' = _
        unfold objAt; rw [if_neg (by omega)]
      have e1 : x.obj r' = elemAt (x.σ.getD (r' % 64) .free) (r' / 64 - 1) := by
        show objAt _ r' = _
        unfold objAt; rw [if_neg (by omega)]
      rw [e0, e1, show x1.σ = (x.σ.set r .dead).set p (.pool t (xs ++ [d])) from rfl, hget]
      by_cases e2 : r' % 64 = p
      · rw [if_pos e2]
        have e3 : x.σ.getD (r' % 64) .free = .pool t xs := by rw [e2, List.getD_eq_getElem?_getD, hp]; rfl
        rw [e3]
        by_cases e4 : r' = V
        · rw [if_pos e4]
          have : r' / 64 - 1 = xs.length := by rw [e4]; exact virt_div hp64
          rw [this]; simp [elemAt]
        · rw [if_neg e4]
          have e5 : r' / 64 - 1 ≠ xs.length := fun e5 => e4 (by rw [virt_of h, e2, e5])
          unfold elemAt
          rcases Nat.lt_or_ge (r' / 64 - 1) xs.length with h6 | h6
          · simp only [List.getElem?_append_left h6]
          · have g1 : xs[r' / 64 - 1]? = none := List.getElem?_eq_none h6
            have g2 : (xs ++ [d])[r' / 64 - 1]? = none := List.getElem?_eq_none (by simp; omega)
            simp only [g1, g2]
      · rw [if_neg e2]
        have : r' ≠ V := fun e4 => e2 (by rw [e4]; exact virt_mod hp64)
        rw [if_neg this]
        by_cases e6 : r' % 64 = r
        · rw [if_pos e6, e6, List.getD_eq_getElem?_getD, h0]; rfl
        · rw [if_neg e6]
  have hmuV : x1.μ V = some ⟨b, 0, none⟩ := (if_pos rfl).trans k1
  have hmu : ∀ r', r' ≠ V → x1.μ r' = x.μ r' := fun r' h => if_neg h
  have hS : HS x x1 := ⟨fun _ _ h => ⟨h, rfl⟩, fun p' j b' h => by
    show (if p' = p ∧ j = xs.length then some b else x.at_ p' j) = _
    by_cases e : p' = p ∧ j = xs.length
    · rw [e.1, e.2, q5 _ (Nat.le_refl _)] at h; cases h
    · rw [if_neg e]; exact h⟩
  have hk : ∀ r', Keeps x x1 r' := fun r' => by
    by_cases e1 : r' = p
    · subst e1
      have : x1.obj r' = .pool t (xs ++ [d]) := by rw [hob, if_pos rfl]
      refine ⟨fun g p c k => ?_, fun g c k => ?_, fun g lo len ex c k => ?_, fun c k => ?_⟩
      · unfold PtrRel; rw [this]; trivial
      · unfold SlcRel; rw [this]; trivial
      · unfold SubRel; rw [this]; trivial
      · unfold MapRel; rw [this]; trivial
    · by_cases e2 : r' = r
      · exact .toDead (by rw [hob, if_neg e1, if_pos e2])
      · by_cases e3 : r' = V
        · exact .ofFree (by rw [e3]; exact hVo)
        · exact .same (by rw [hob, if_neg e1, if_neg e2, if_neg e3]) (hmu _ e3) fun a n _ _ h => h
  have src : ∀ r' a, (x1.obj r').live = true → x1.μ r' = some a → ∃ s, (x.obj s).live = true ∧ x.μ s = some a ∧ s = (if r' = V then r else r') ∧ r' ≠ r := fun r' a l m => by
    rw [hob] at l
    by_cases e3 : r' = V
    · refine ⟨r, by rw [hro]; rfl, ?_, (if_pos e3).symm, by omega⟩
      rw [e3] at m
      exact (if_pos rfl).symm.trans m
    · rw [hmu _ e3] at m
      by_cases e1 : r' = p
      · rw [e1, q3] at m; cases m
      · rw [if_neg e1] at l
        by_cases e2 : r' = r
        · rw [if_pos e2] at l; cases l
        · rw [if_neg e2, if_neg e3] at l
          exact ⟨r', l, m, (if_neg e3).symm, e2⟩
  have hmem : Mem x1 := {
    objs := fun r' => by
      rw [hob]
      by_cases e1 : r' = p
      · rw [if_pos e1]; subst e1
        refine ⟨q1, q2, (hmu _ (by omega)).trans q3, fun j hj => ?_, fun j hj => ?_⟩
        · rw [List.length_append, List.length_singleton] at hj
          rcases Nat.lt_or_ge j xs.length with h6 | h6
          · obtain ⟨b', f1, f2⟩ := q4 j h6
            refine ⟨b', hS.at_ _ _ _ f1, (hmu _ fun e => ?_).trans f2⟩
            have := virt_div (j := j) q2
            rw [e, virt_div q2] at this; omega
          · obtain rfl : j = xs.length := by omega
            exact ⟨b, if_pos ⟨rfl, rfl⟩, hmuV⟩
        · rw [List.length_append, List.length_singleton] at hj
          exact (if_neg fun e => by omega).trans (q5 j (by omega))
      · rw [if_neg e1]
        by_cases e2 : r' = r
        · rw [if_pos e2]; trivial
        · rw [if_neg e2]
          by_cases e3 : r' = V
          · rw [if_pos e3, e3]
            exact ⟨b, c, e, hmuV, k2, Ty.Rel.congr (hS.t true) _ _ _ (toDat_C t v d _ hd k3), rfl⟩
          · rw [if_neg e3]
            refine ObjRel.congr hS hk (hmu _ e3) (fun _ _ _ => rfl) (fun hpl => ?_) (M.objs r')
            have h6 : r' < 64 := by
              have := M.objs r'
              cases ho : x.obj r' <;> first | (rw [ho] at this; exact this.2.1) | (rw [ho] at hpl; cases hpl)
            refine ⟨fun j => hmu _ fun e => e1 ?_, ?_, rfl⟩
            · have := virt_mod (j := j) h6
              rw [e, virt_mod hp64] at this; exact this.symm
            · funext j
              exact if_neg fun e => e1 e.1
    apart := fun r1 r2 a1 a2 hne l1 l2 m1 m2 => by
      obtain ⟨s1, f1, f2, f3, f4⟩ := src r1 a1 l1 m1
      obtain ⟨s2, g1, g2, g3, g4⟩ := src r2 a2 l2 m2
      refine M.apart s1 s2 a1 a2 (fun e => ?_) f1 g1 f2 g2
      rw [f3, g3] at e
      by_cases h1 : r1 = V
      · rw [if_pos h1] at e
        by_cases h2 : r2 = V
        · exact hne (h1.trans h2.symm)
        · rw [if_neg h2] at e; exact g4 e.symm
      · rw [if_neg h1] at e
        by_cases h2 : r2 = V
        · rw [if_pos h2] at e; exact f4 e
        · rw [if_neg h2] at e; exact hne e
    still := fun p b hb => ⟨(M.still p b hb).1, fun r' a l m => by
      obtain ⟨s, f1, f2, _⟩ := src r' a l m
      exact (M.still p b hb).2 s a f1 f2⟩
    sub := M.sub
    len := by show ((x.σ.set r .dead).set p _).length ≤ 64; rw [List.length_set, List.length_set]; exact M.len }
  refine ⟨x1, { mem := hmem, h := hh, S := hS, pl := rfl, at_ := fun p' hp' => ?_, keeps := hk, os := rfl, tape := rfl, output := rfl, size := Nat.le_refl _, frame := fun b hb _ => rfl, own := fun b ⟨r', a, l, m, e⟩ => ?_, newS := fun p b hb => .inl hb }, rfl, fun g cs hc => ?_⟩
  · funext j
    exact if_neg fun e => by rw [e.1, q1] at hp'; cases hp'
  · obtain ⟨s, f1, f2, _⟩ := src r' a l m
    exact .inl ⟨s, a, f1, f2, e⟩
  · obtain ⟨c0, rfl, _, hpr⟩ := hc
    unfold PtrRel at hpr
    rw [hro] at hpr
    obtain ⟨a, s, o, f1, f2, f3⟩ := hpr
    rw [k1] at f1; cases f1
    unfold Sh.at at f2
    cases f2
    refine ⟨b, if_pos ⟨rfl, rfl⟩, ?_⟩
    rw [f3]; rfl

theorem coe_sound {x0 : Ctx} {w0 : World} {N : Nat} {c : Coe} {st : St} {k : St → Option R} {z : R} (h : coeK c st k = some z) {a : Act} {w : World} (C : Conc x0 w0 N st a w) : ∃ st', k st' = some z ∧ Conc x0 w0 N st' a w := by
  obtain ⟨⟨x, hσ, G, hdf, hs⟩, hsz⟩ := C
  have fin : ∀ (σ1 : List AObj) (l : Loc) (u u' : AVal) (x1 : Ctx), Goes x w x1 w → x1.σ = σ1 → (∀ (r : Nat) (v : AVal), σ1[r]? = some (AObj.box v) → st.σ[r]? = some (AObj.box v)) → locGet st l some = some u → locSet ⟨st.slots, σ1⟩ l u' k = some z → (∀ c, u.C x c → u'.C x1 c) → ∃ st', k st' = some z ∧ Conc x0 w0 N st' a w := by
    intro σ1 l u u' x1 G1 h1 h2 h3 h4 h5
    obtain ⟨st', x', k1, k2, k3, k4⟩ := locSet_sound G.mem G.h G1 hσ h1 h2 hs h3 h4 h5
    exact ⟨st', k1, ⟨x', k2, G.trans k3, hdf.goes k3, k4⟩, hsz⟩
  cases c with
  | empty l r τ =>
    simp only [coeK] at h
    obtain ⟨u, h1, h2⟩ := locGet_inv h
    split at h2
    · split at h2
      · rename_i hr
        rw [← hσ] at hr
        obtain ⟨G1, V⟩ := goes_empty G.mem G.h τ hr
        refine fin _ l .nils (.slc r 0) _ G1 (by rw [hσ]) (set_box fun v e => by cases e) h1 h2 fun c hc => ?_
        obtain ⟨b, rfl⟩ := hc
        exact V b
      · cases h2
    · cases h2
  | dat l t =>
    simp only [coeK] at h
    obtain ⟨u, h1, h2⟩ := locGet_inv h
    split at h2
    · rename_i d hd
      exact fin st.σ l u _ x (.refl G.mem G.h) hσ (fun _ _ h => h) h1 h2 fun c hc => toDat_C t u d c hd hc
    · cases h2
  | weak l =>
    simp only [coeK] at h
    obtain ⟨u, h1, h2⟩ := locGet_inv h
    split at h2
    · rename_i q t d
      refine fin st.σ l _ _ x (.refl G.mem G.h) hσ (fun _ _ h => h) h1 h2 fun c hc => ?_
      cases q with
      | true => exact Ty.Rel.congr (S := x.F true) (S' := x.F false) ⟨fun b hb => ⟨G.mem.sub b hb, rfl⟩, fun _ _ _ h => h⟩ _ _ _ hc
      | false => exact hc
    · cases h2
  | freeze l =>
    simp only [coeK] at h
    obtain ⟨u, h1, h2⟩ := locGet_inv h
    split at h2
    · rename_i r g
      split at h2
      · rename_i g' τ xs hr
        obtain ⟨hg, h3⟩ := cond_some h2
        obtain rfl := Nat.eq_of_beq_eq_true hg
        rw [← hσ] at hr
        obtain ⟨x1, G1, e1, e2, _⟩ := goes_freeze G.mem G.h hr
        exact fin _ l _ _ x1 G1 (by rw [e1, hσ]) (set_box fun v e => by cases e) h1 h3 e2
      · cases h2
    · rename_i r g lo len ex
      split at h2
      · rename_i g' τ xs hr
        obtain ⟨hg, h3⟩ := cond_some h2
        obtain rfl := Nat.eq_of_beq_eq_true hg
        rw [← hσ] at hr
        obtain ⟨x1, G1, e1, _, e2⟩ := goes_freeze G.mem G.h hr
        exact fin _ l _ _ x1 G1 (by rw [e1, hσ]) (set_box fun v e => by cases e) h1 h3 (e2 _ _ _)
      · cases h2
    · cases h2
  | keys r n =>
    simp only [coeK] at h
    split at h
    · obtain ⟨_, h⟩ := cond_some h
      exact ⟨st, h, ⟨x, hσ, G, hdf, hs⟩, hsz⟩
    · cases h
  | push l r p =>
    simp only [coeK] at h
    obtain ⟨u, h1, h2⟩ := locGet_inv h
    split at h2
    case h_2 => cases h2
    rename_i r' g
    obtain ⟨hr, h2⟩ := cond_some h2
    obtain rfl := Nat.eq_of_beq_eq_true hr
    split at h2
    case h_2 => cases h2
    rename_i v t xs hr hp
    split at h2
    case h_2 => cases h2
    rename_i d hd
    rw [← hσ] at hr hp
    obtain ⟨x1, G1, e1, e2⟩ := goes_push G.mem G.h hr hp hd
    refine fin _ l _ _ x1 G1 (by rw [e1, hσ]) (fun q u hq => ?_) h1 h2 (e2 g)
    rw [← hσ] at hq ⊢
    exact set_box (fun v e => by cases e) q u (set_box (fun v e => by cases e) q u hq)
  | cut l =>
    simp only [coeK] at h
    obtain ⟨u, h1, h2⟩ := locGet_inv h
    split at h2
    case h_2 => cases h2
    rename_i r g lo len
    split at h2
    case h_2 => cases h2
    rename_i g' τ xs hr
    obtain ⟨hg, h3⟩ := cond_some h2
    rw [Bool.and_eq_true] at hg
    obtain rfl := Nat.eq_of_beq_eq_true hg.1
    rw [← hσ] at hr
    obtain ⟨x1, G1, e1, e2⟩ := goes_cut (len := len) G.mem G.h hr (by simpa [Nat.blt_eq] using hg.2)
    exact fin _ l _ _ x1 G1 (by rw [e1, hσ]) (set_box fun v e => by cases e) h1 h3 e2
end
end Go.Am

/- The abstract machine: a region with a step of which there is more than one outcome. -/
namespace Go.Am
section
variable {P : Program} {T : Tbl} {fns : Fns} {R : Type} {x0 : Ctx} {w0 : World} {N : Nat}

noncomputable def wildStep (R : Type) (T : Tbl) (ao : AOp) (st : St) (k : St → Option R) : Option R :=
  wildK T (st.get ao.an.touch) ao.o.op (opval ao.reads st.slots) fun v ups => k (st.upd ao.o.dst v ups)

noncomputable def wildsK (R : Type) (T : Tbl) (fns : Fns) (pre : List AOp) (o : AOp) (post : List AOp) (st : St) (k : St → Option R) : Option R :=
  stepsK R T fns pre st fun st => wildStep R T o st fun st => stepsK R T fns post st k

def wildOk (N : Nat) (pre : List AOp) (o : AOp) (post : List AOp) : Bool :=
  (pre ++ o :: post).all (dstOk N) && (pre ++ o :: post).all (guardOk (pre ++ o :: post)) && o.o.guard.isNone

theorem lead_wild (hT : TblOk P T) {ops : List AOp} {ao : AOp} {i : Nat} (hi : ops[i]? = some ao) (hN : dstOk N ao = true) (hgd : ao.o.guard = none) {st : St} {k : St → Option R} {z : R} (h : wildStep R T ao st k = some z) {a : Act} {w : World} (C : Conc x0 w0 N st a w)
    {K : Act → World → Prop} {Q : Exit → Act → World → Prop} (hK : ∀ st' a' w', k st' = some z → Conc x0 w0 N st' a' w' → K a' w') : wpOp P (ops.map (·.o)).toArray Q i K a w := by
  have hop : (ops.map (·.o)).toArray[i]? = some ao.o := by simp [hi]
  unfold wpOp
  rw [hop]
  have hw : Region.wanted ao.o (yielded (ops.map (·.o)).toArray a.tmps) = true := by unfold Region.wanted; rw [hgd]
  simp only [hw, if_true]
  obtain ⟨⟨x, hσ, G, hdf, hs⟩, hsz⟩ := C
  have hM : Meets P T (opval ao.reads st.slots) (st.get ao.an.touch) a w x := {
    tbl := hT
    mem := G.mem
    h := G.h
    val := fun o v ho => by
      cases o with
      | tmp t =>
        simp only [opval] at ho
        obtain ⟨_, ho⟩ := cond_some ho
        obtain ⟨u, h1, h2⟩ := hs t v ho
        have : a.eval (.tmp t) = u := by simp [Act.eval, Array.getD_eq_getD_getElem?, h1]
        rw [this]; exact h2
      | const c => exact constVal_V ho
      | func f => cases ho; exact ⟨[], rfl, rfl⟩
      | global g => cases ho
    obj := fun r ob ho => by
      unfold St.get at ho
      rw [hσ]; exact (cond_some ho).2 }
  refine .inl (wildK_ok hM ao.o h K Q fun v ups u w' x' hk G' hσ' hv => hK _ _ _ hk ?_)
  exact conc_upd hN hσ G hs hsz hdf G' hσ' hv

theorem steps_part (hT : TblOk P T) (hfns : FnsOk P fns) (ops : List AOp) (hN : ∀ ao ∈ ops, dstOk N ao = true) (hgd : ∀ ao ∈ ops, guardOk ops ao = true) {Q : Exit → Act → World → Prop} {k : St → Option R} {z : R} {rest : List Nat} :
    ∀ (l : List AOp) (i : Nat), (∀ j ao, l[j]? = some ao → ops[i + j]? = some ao) → ∀ (st : St) (a : Act) (w : World), stepsK R T fns l st k = some z → Conc x0 w0 N st a w → (∀ st' a' w', k st' = some z → Conc x0 w0 N st' a' w' → wpOps P (ops.map (·.o)).toArray Q rest a' w') →
      wpOps P (ops.map (·.o)).toArray Q (List.range' i l.length ++ rest) a w := by
  intro l
  induction l with
  | nil => intro i _ st a w h C hQ; exact hQ st a w h C
  | cons ao l ih =>
    intro i hd st a w h C hQ
    have hi : ops[i]? = some ao := hd 0 ao rfl
    have hm := List.mem_of_getElem? hi
    obtain ⟨st', h1, h2, _⟩ := stepK_inv hfns (show stepK R T fns ao st _ = some z from h)
    rw [List.length_cons, List.range'_succ, List.cons_append, wpOps_cons]
    refine lead_sound hT hfns hi (hN ao hm) (hgd ao hm) h2 C fun a' w' C' => ?_
    refine ih (i + 1) (fun j bo hj => ?_) st' a' w' h1 C' hQ
    have := hd (j + 1) bo (by simpa using hj)
    rw [← this]; congr 1; omega

theorem wild_sound (hT : TblOk P T) (hfns : FnsOk P fns) {pre post : List AOp} {o : AOp} (hok : wildOk N pre o post = true) {id : Nat} {Q : Exit → Act → World → Prop} {k : St → Option R} {z : R} {st : St} {a : Act} {w : World}
    (hk : wildsK R T fns pre o post st k = some z) (C : Conc x0 w0 N st a w) (hQ : ∀ st' a' w', k st' = some z → Conc x0 w0 N st' a' w' → Q .normal a' w') : (Code.region id ((pre ++ o :: post).map (·.o)).toArray false).wp P Q a w := by
  unfold wildOk at hok
  simp only [Bool.and_eq_true] at hok
  obtain ⟨⟨h1, h2⟩, h3⟩ := hok
  have hN : ∀ ao ∈ pre ++ o :: post, dstOk N ao = true := List.all_eq_true.1 h1
  have hgd : ∀ ao ∈ pre ++ o :: post, guardOk (pre ++ o :: post) ao = true := List.all_eq_true.1 h2
  refine wp_region ?_
  have hsz : ((pre ++ o :: post).map (·.o)).toArray.size = pre.length + (1 + post.length) := by simp; omega
  rw [hsz, List.range_eq_range', ← List.range'_append_1, Nat.zero_add, Nat.add_comm 1, List.range'_succ]
  have mid : (pre ++ o :: post)[pre.length]? = some o := by simp
  refine steps_part hT hfns _ hN hgd pre 0 (fun j ao hj => ?_) st a w hk C fun st1 a1 w1 hk1 C1 => ?_
  · rw [Nat.zero_add, List.getElem?_append_left (List.getElem?_eq_some_iff.1 hj).1]; exact hj
  · rw [wpOps_cons]
    refine lead_wild hT mid (hN o (by simp)) (Option.isNone_iff_eq_none.1 h3) hk1 C1 fun st2 a2 w2 hk2 C2 => ?_
    have := steps_part (x0 := x0) (w0 := w0) (Q := Q) (rest := []) hT hfns _ hN hgd post (pre.length + 1) (fun j ao hj => ?_) st2 a2 w2 hk2 C2 fun st3 a3 w3 hk3 C3 => hQ st3 a3 w3 hk3 C3
    · rw [List.append_nil] at this; exact this
    · rw [List.getElem?_append_right (by omega), show pre.length + 1 + j - pre.length = j + 1 by omega]; exact hj
end
end Go.Am

/- The abstract machine, twenty-fifth part: code. -/
namespace Go.Am

inductive ACode where
  | skip
  | region (id : Nat) (ops : List AOp) (draw : Bool)
  /-- a region of which one step has more than one outcome -/
  | wild (id : Nat) (pre : List AOp) (o : AOp) (post : List AOp)
  | seq (a b : ACode)
  | cond (c : Operand) (a b : ACode)
  | block (id : Nat) (a : ACode)
  | loop (nm : Norm) (a : ACode)
  | exit (id : Nat)
  | scope (a : ACode)
  | ret (ks : List (Option (Nat × Nat)))
  | norm (nm : Norm) (a : ACode)
  /-- at its normal end told anew -/
  | fin (nm : Norm) (a : ACode)
  | co (c : Coe) (a : ACode)
  | finco (c : Coe) (a : ACode)
  /-- told in one way or another, as the state is -/
  | either (t : St → Bool) (a b : ACode)
  /-- a part that is told elsewhere -/
  | hole (nm : Norm) (i : Nat) (c : Code)

def ACode.erase : ACode → Code
  | .skip => .skip
  | .region id ops draw => .region id (ops.map (·.o)).toArray draw
  | .wild id pre o post => .region id ((pre ++ o :: post).map (·.o)).toArray false
  | .seq a b => .seq a.erase b.erase
  | .cond c a b => .cond c a.erase b.erase
  | .block id a => .block id a.erase
  | .loop _ a => .loop a.erase
  | .exit id => .exit id
  | .scope a => .scope a.erase
  | .ret _ => .ret
  | .norm _ a => a.erase
  | .fin _ a => a.erase
  | .co _ a => a.erase
  | .finco _ a => a.erase
  | .either _ a _ => a.erase
  | .hole _ _ c => c

def ACode.ok (N : Nat) : ACode → Bool
  | .region _ ops draw => regionOk N draw ops
  | .wild _ pre o post => wildOk N pre o post
  | .seq a b | .cond _ a b | .either _ a b => a.ok N && b.ok N
  | .block _ a | .loop _ a | .scope a | .norm _ a | .fin _ a | .co _ a | .finco _ a => a.ok N
  | _ => true

/-- Told in two ways, it is one code. -/
def ACode.same : ACode → Prop
  | .seq a b | .cond _ a b => a.same ∧ b.same
  | .block _ a | .loop _ a | .scope a | .norm _ a | .fin _ a | .co _ a | .finco _ a => a.same
  | .either _ a b => a.same ∧ b.same ∧ b.erase = a.erase
  | _ => True

inductive AExit where
  | normal
  | exit (id : Nat)
  | ret (ks : List (Option (Nat × Nat)))

def AExit.up : AExit → Exit
  | .normal => .normal
  | .exit id => .exit id
  | .ret _ => .ret

/-- A part that is told elsewhere: where its values lie, its code, what it does. -/
structure Sub (R : Type) where
  live : List Nat
  code : Code
  run : List AVal → List AObj → (AExit → St → Option R) → Option R

abbrev Subs (R : Type) := Nat → Option (Sub R)

def ACode.holes : ACode → List (List Nat × Code)
  | .seq a b | .cond _ a b | .either _ a b => a.holes ++ b.holes
  | .block _ a | .loop _ a | .scope a | .norm _ a | .fin _ a | .co _ a | .finco _ a => a.holes
  | .hole nm _ c => [(nm.live, c)]
  | _ => []

def ACode.fills {R : Type} (subs : Subs R) : ACode → List (List Nat × Code)
  | .seq a b | .cond _ a b | .either _ a b => a.fills subs ++ b.fills subs
  | .block _ a | .loop _ a | .scope a | .norm _ a | .fin _ a | .co _ a | .finco _ a => a.fills subs
  | .hole _ i _ => match subs i with | some s => [(s.live, s.code)] | none => [([], .skip)]
  | _ => []

theorem fills_length {R : Type} (subs : Subs R) (a : ACode) : (a.fills subs).length = a.holes.length := by
  induction a with
  | seq a b iha ihb => simp only [ACode.fills, ACode.holes, List.length_append, iha, ihb]
  | cond c a b iha ihb => simp only [ACode.fills, ACode.holes, List.length_append, iha, ihb]
  | block id a ih => exact ih
  | loop nm a ih => exact ih
  | scope a ih => exact ih
  | norm nm a ih => exact ih
  | fin nm a ih => exact ih
  | co c a ih => exact ih
  | finco c a ih => exact ih
  | either t a b iha ihb => simp only [ACode.fills, ACode.holes, List.length_append, iha, ihb]
  | hole nm i c => simp only [ACode.fills, ACode.holes]; split <;> rfl
  | _ => rfl

section
variable (R : Type) (T : Tbl) (fns : Fns) (fuel : Nat) (g0 : List Bool)

/-- Rounds of a loop, each from a state told anew. -/
def backTo (nm : Norm) (F : St → Option R) (k : AExit → St → Option R) : AExit → St → Option R
  | .normal, st => normK g0 nm st F
  | .exit id, st => k (.exit id) st
  | .ret ks, st => k (.ret ks) st

def roundsK (nm : Norm) (B : St → (AExit → St → Option R) → Option R) (k : AExit → St → Option R) : Nat → St → Option R
  | 0, _ => none
  | n + 1, st => B st (backTo R g0 nm (roundsK nm B k n) k)

def condK (c : Operand) (st : St) (A B : St → Option R) : Option R :=
  match c with
  | .tmp t => match st.slots t with
    | some (.dat p .bool b) => bif b then A (st.know t p true) else B (st.know t p false)
    | _ => none
  | .const (.bool b) => bif b then A st else B st
  | _ => none

noncomputable def runK (subs : Subs R) : ACode → St → (AExit → St → Option R) → Option R
  | .skip, st, k => k .normal st
  | .region _ ops _, st, k => stepsK R T fns ops st (k .normal)
  | .wild _ pre o post, st, k => wildsK R T fns pre o post st (k .normal)
  | .seq a b, st, k => runK subs a st fun e st' => match e with
    | .normal => runK subs b st' k
    | .exit id => k (.exit id) st'
    | .ret ks => k (.ret ks) st'
  | .cond c a b, st, k => condK R c st (fun st => runK subs a st k) (fun st => runK subs b st k)
  | .block id a, st, k => runK subs a st fun e st' => match e with
    | .normal => k .normal st'
    | .exit id' => bif Nat.beq id' id then k .normal st' else k (.exit id') st'
    | .ret ks => k (.ret ks) st'
  | .loop nm a, st, k => normK g0 nm st fun st' => roundsK R g0 nm (fun st k => runK subs a st k) k fuel st'
  | .exit id, st, k => k (.exit id) st
  | .scope a, st, k => runK subs a st k
  | .ret ks, st, k => k (.ret ks) st
  | .norm nm a, st, k => normK g0 nm st fun st' => runK subs a st' k
  | .fin nm a, st, k => runK subs a st fun e st' => match e with
    | .normal => normK g0 nm st' fun st2 => k .normal st2
    | .exit id => k (.exit id) st'
    | .ret ks => k (.ret ks) st'
  | .co c a, st, k => coeK c st fun st' => runK subs a st' k
  | .finco c a, st, k => runK subs a st fun e st' => match e with
    | .normal => coeK c st' fun st2 => k .normal st2
    | .exit id => k (.exit id) st'
    | .ret ks => k (.ret ks) st'
  | .either t a b, st, k => bif t st then runK subs a st k else runK subs b st k
  | .hole nm i _, st, k => match subs i with
    | some s => tellK g0 nm st fun vs os => s.run vs os k
    | none => none

def resK (st : St) : List ResultVar → (AVal → Option R) → Option R
  | [], k => k .nil
  | .tmp t :: l, k => match st.slots t with
    | some v => resK st l fun vs => k (.cons v vs)
    | none => none
  | .cell t ty :: l, k => match st.slots t with
    | some v => actLoad T (fun r => st.σ[r]?) ty v fun v ups => bif ups.isEmpty then resK st l fun vs => k (.cons v vs) else none
    | none => none

def retK (rs : List ResultVar) (ks : List (Option (Nat × Nat))) (st : St) (k : AVal → List AObj → Option R) : Option R :=
  bif renFits g0 st.σ ks then resK R T st rs fun vs => match vs with
    | .cons v .nil => k (v.told (renName ks st.σ)) (renObjs ks st.σ)
    | vs => k ((AVal.tup vs).told (renName ks st.σ)) (renObjs ks st.σ)
  else none
end

/-- A function as the machine runs it. -/
structure FunDef where
  code : ACode
  results : List ResultVar
  ntmps : Nat
  room : Nat
  ks : List (Option (Nat × Nat))
  g0 : List Bool

def countTo : Nat → Nat → List Nat
  | _, 0 => []
  | i, n + 1 => i :: countTo (i + 1) n

noncomputable def runF (R : Type) (T : Tbl) (fns : Fns) (fuel : Nat) (subs : Subs R) (fd : FunDef) (args : List AVal) (objs : List AObj) (k : AVal → List AObj → Option R) : Option R :=
  bif Nat.ble (fd.g0.length + fd.room) 64 then
    runK R T fns fuel fd.g0 subs fd.code ⟨slotsAt (countTo 0 args.length) args, objs ++ List.replicate fd.room .free⟩ fun e st => match e with
      | .normal => retK R T fd.g0 fd.results fd.ks st k
      | .ret ks => retK R T fd.g0 fd.results ks st k
      | .exit _ => none
  else none

/-- What is told of a part holds. -/
def SubOk (P : Program) {R : Type} (g0 : List Bool) (N : Nat) (s : Sub R) : Prop :=
  ∀ (args : List AVal) (objs : List AObj) (k : AExit → St → Option R) (z : R), s.run args objs k = some z → ∀ (x0 : Ctx) (w0 : World) (a : Act) (w : World) (Q : Exit → Act → World → Prop), x0.σ.map AObj.arr0 = g0 →
    Conc x0 w0 N ⟨slotsAt s.live args, objs⟩ a w → (∀ e st' a' w', k e st' = some z → Conc x0 w0 N st' a' w' → Q e.up a' w') → s.code.wp P Q a w

def SubsOk (P : Program) {R : Type} (g0 : List Bool) (N : Nat) (subs : Subs R) : Prop := ∀ i s, subs i = some s → SubOk P g0 N s

section
variable {P : Program} {T : Tbl} {fns : Fns} {R : Type} {x0 : Ctx} {w0 : World} {N fuel : Nat}

theorem know_conc {st : St} {t : Nat} {p b : Bool} {a : Act} {w : World} (h : st.slots t = some (.dat p .bool b)) (C : Conc x0 w0 N st a w) : Conc x0 w0 N (st.know t p b) a w := by
  rw [know_same h]; exact C

theorem run_sound (hT : TblOk P T) (hfns : FnsOk P fns) (hm : P.follows .mixedOrders = true) {subs : Subs R} (hsubs : SubsOk P (x0.σ.map AObj.arr0) N subs) {z : R} : ∀ (c : ACode), c.ok N = true → c.same → c.holes = c.fills subs → ∀ (st : St) (k : AExit → St → Option R) (a : Act) (w : World) (Q : Exit → Act → World → Prop),
    runK R T fns fuel (x0.σ.map AObj.arr0) subs c st k = some z → Conc x0 w0 N st a w → (∀ e st' a' w', k e st' = some z → Conc x0 w0 N st' a' w' → Q e.up a' w') → c.erase.wp P Q a w := by
  intro c
  induction c with
  | skip => intro _ _ _ st k a w Q h C hQ; exact wp_skip (hQ .normal _ _ _ h C)
  | region id ops draw =>
    intro hok hsm hh st k a w Q h C hQ
    exact region_sound hT hfns hm hok h C fun st' a' w' h' C' => hQ .normal _ _ _ h' C'
  | wild id pre o post =>
    intro hok hsm hh st k a w Q h C hQ
    exact wild_sound hT hfns hok h C fun st' a' w' h' C' => hQ .normal _ _ _ h' C'
  | seq c d ihc ihd =>
    intro hok hsm hh st k a w Q h C hQ
    simp only [ACode.ok, Bool.and_eq_true] at hok
    obtain ⟨hh1, hh2⟩ := List.append_inj hh (fills_length subs c).symm
    refine wp_seq (ihc hok.1 hsm.1 hh1 st _ a w _ h C fun e st' a' w' h' C' => ?_)
    cases e with
    | normal => exact ihd hok.2 hsm.2 hh2 st' k a' w' Q h' C' hQ
    | exit id => exact hQ (.exit id) _ _ _ h' C'
    | ret ks => exact hQ (.ret ks) _ _ _ h' C'
  | cond o c d ihc ihd =>
    intro hok hsm hh st k a w Q h C hQ
    simp only [ACode.ok, Bool.and_eq_true] at hok
    obtain ⟨hh1, hh2⟩ := List.append_inj hh (fills_length subs c).symm
    simp only [runK, condK] at h
    split at h
    · rename_i t
      split at h
      · rename_i p b hs
        obtain ⟨x, _, _, _, hsl⟩ := C.state
        obtain ⟨u, h3, h4⟩ := hsl t _ hs
        have hu := V_bool.1 h4
        subst hu
        have he : a.eval (.tmp t) = .bool b := by simp [Act.eval, Array.getD_eq_getD_getElem?, h3]
        cases b with
        | true => exact wp_cond_true he (ihc hok.1 hsm.1 hh1 _ k a w Q h (know_conc hs C) hQ)
        | false => exact wp_cond_false he (ihd hok.2 hsm.2 hh2 _ k a w Q h (know_conc hs C) hQ)
      · cases h
    · rename_i b
      cases b with
      | true => exact wp_cond_true (by simp [Act.eval]) (ihc hok.1 hsm.1 hh1 _ k a w Q h C hQ)
      | false => exact wp_cond_false (by simp [Act.eval]) (ihd hok.2 hsm.2 hh2 _ k a w Q h C hQ)
    · cases h
  | block id c ih =>
    intro hok hsm hh st k a w Q h C hQ
    refine wp_block (ih hok hsm hh st _ a w _ h C fun e st' a' w' h' C' => ?_)
    cases e with
    | normal => exact hQ .normal _ _ _ h' C'
    | exit id' =>
      show (if id' = id then Q .normal a' w' else Q (.exit id') a' w')
      simp only at h'
      cases hb : Nat.beq id' id with
      | true => rw [hb] at h'; rw [if_pos (Nat.eq_of_beq_eq_true hb)]; exact hQ .normal _ _ _ h' C'
      | false => rw [hb] at h'; rw [if_neg (fun e => by rw [e, Nat.beq_refl] at hb; cases hb)]; exact hQ (.exit id') _ _ _ h' C'
    | ret ks => exact hQ (.ret ks) _ _ _ h' C'
  | loop nm c ih =>
    intro hok hsm hh st k a w Q h C hQ
    obtain ⟨st', h1, C1⟩ := norm_sound h C
    refine wp_loop_rounds fuel ?_
    have key : ∀ n st a w, roundsK R (x0.σ.map AObj.arr0) nm (fun st k => runK R T fns fuel (x0.σ.map AObj.arr0) subs c st k) k n st = some z → Conc x0 w0 N st a w → Code.rounds P c.erase Q n a w := by
      intro n
      induction n with
      | zero => intro st a w h; cases h
      | succ n ihn =>
        intro st a w h C
        refine ih hok hsm hh st _ a w _ h C fun e st' a' w' h' C' => ?_
        cases e with
        | normal =>
          obtain ⟨st2, h2, C2⟩ := norm_sound h' C'
          exact ihn st2 a' w' h2 C2
        | exit id => exact hQ (.exit id) _ _ _ h' C'
        | ret ks => exact hQ (.ret ks) _ _ _ h' C'
    exact key fuel st' a w h1 C1
  | exit id => intro _ _ _ st k a w Q h C hQ; exact wp_exit (hQ (.exit id) _ _ _ h C)
  | scope c ih =>
    intro hok hsm hh st k a w Q h C hQ
    refine wp_scope_straight (ih hok hsm hh st k a w _ h C fun e st' a' w' h' C' => ?_)
    cases e with
    | normal => exact hQ .normal _ _ _ h' C'
    | exit id => exact hQ (.exit id) _ _ _ h' C'
    | ret ks => exact hQ (.ret ks) _ _ _ h' C'
  | ret ks => intro _ _ _ st k a w Q h C hQ; exact wp_ret (hQ (.ret ks) _ _ _ h C)
  | norm nm c ih =>
    intro hok hsm hh st k a w Q h C hQ
    obtain ⟨st', h1, C1⟩ := norm_sound h C
    exact ih hok hsm hh st' k a w Q h1 C1 hQ
  | fin nm c ih =>
    intro hok hsm hh st k a w Q h C hQ
    refine ih hok hsm hh st _ a w Q h C fun e st' a' w' h' C' => ?_
    cases e with
    | normal =>
      obtain ⟨st2, h2, C2⟩ := norm_sound h' C'
      exact hQ .normal _ _ _ h2 C2
    | exit id => exact hQ (.exit id) _ _ _ h' C'
    | ret ks => exact hQ (.ret ks) _ _ _ h' C'
  | co c d ih =>
    intro hok hsm hh st k a w Q h C hQ
    obtain ⟨st', h1, C1⟩ := coe_sound h C
    exact ih hok hsm hh st' k a w Q h1 C1 hQ
  | finco c d ih =>
    intro hok hsm hh st k a w Q h C hQ
    refine ih hok hsm hh st _ a w Q h C fun e st' a' w' h' C' => ?_
    cases e with
    | normal =>
      obtain ⟨st2, h2, C2⟩ := coe_sound h' C'
      exact hQ .normal _ _ _ h2 C2
    | exit id => exact hQ (.exit id) _ _ _ h' C'
    | ret ks => exact hQ (.ret ks) _ _ _ h' C'
  | either t c d ihc ihd =>
    intro hok hsm hh st k a w Q h C hQ
    simp only [ACode.ok, Bool.and_eq_true] at hok
    obtain ⟨hh1, hh2⟩ := List.append_inj hh (fills_length subs c).symm
    simp only [runK] at h
    cases ht : t st with
    | true => rw [ht] at h; exact ihc hok.1 hsm.1 hh1 st k a w Q h C hQ
    | false =>
      rw [ht] at h
      have := ihd hok.2 hsm.2.1 hh2 st k a w Q h C hQ
      rw [hsm.2.2] at this
      exact this
  | hole nm i c =>
    intro _ _ hh st k a w Q h C hQ
    simp only [runK] at h
    simp only [ACode.holes, ACode.fills] at hh
    cases hs : subs i with
    | none => rw [hs] at h; cases h
    | some s =>
      rw [hs] at h hh
      simp only [List.cons.injEq, Prod.mk.injEq, and_true] at hh
      obtain ⟨h1, h2⟩ := hh
      obtain ⟨vs, os, h3, C3⟩ := tell_sound h C
      rw [h1] at C3
      show c.wp P Q a w
      rw [h2]
      exact hsubs i s hs vs os k z h3 x0 w0 a w Q rfl C3 hQ

/-- A part, from its code's run. -/
theorem subOk_of (hT : TblOk P T) (hfns : FnsOk P fns) (hm : P.follows .mixedOrders = true) {g0 : List Bool} {subs : Subs R} (hsubs : SubsOk P g0 N subs) {c : ACode} (hok : c.ok N = true) (hsm : c.same) (hh : c.holes = c.fills subs) {s : Sub R} (hc : c.erase = s.code)
    (hrun : ∀ args objs k z, s.run args objs k = some z → runK R T fns fuel g0 subs c ⟨slotsAt s.live args, objs⟩ k = some z) : SubOk P g0 N s := by
  intro args objs k z h x0 w0 a w Q hg C hQ
  subst hg
  rw [← hc]
  exact run_sound hT hfns hm hsubs c hok hsm hh _ k a w Q (hrun args objs k z h) C hQ
end
end Go.Am

/- The abstract machine, twenty-sixth part: functions. -/
namespace Go.Am
/-- The same context, over another heap. -/
abbrev Ctx.over (x : Ctx) (w : World) : Ctx := { x with h := fun b => w.heap[b]? }

section
variable {x : Ctx} {w w' : World} {row : Option Nat} (M : Mem x) (hh : x.h = fun b => w.heap[b]?) (hg : w.grownBy w' row) (hrow : ∀ r, row = some r → (∀ p, ¬ x.S p r) ∧ ¬ Owned x r)
include M hh hg hrow
theorem over_S : HS x (x.over w') := by
  refine ⟨fun p b hb => ?_, fun _ _ _ h => h⟩
  refine ⟨hb, ?_⟩
  have h1 := (M.still p b hb).1
  rw [hh] at h1
  have hlt : b < w.heap.size := isSome_heap.1 h1
  show w'.heap[b]? = x.h b
  rw [hh]
  exact hg.block b hlt fun e => (hrow b e.symm).1 p hb
theorem over_block {r : Nat} {a : Addr} (hl : (x.obj r).live = true) (ha : x.μ r = some a) : (x.over w').h a.block = x.h a.block := by
  have h1 := M.there hl ha
  rw [hh] at h1
  have hlt : a.block < w.heap.size := isSome_heap.1 h1
  show w'.heap[a.block]? = x.h a.block
  rw [hh]
  exact hg.block _ hlt fun e => (hrow _ e.symm).2 ⟨r, a, hl, ha, rfl⟩
theorem over_keeps (r : Nat) : Keeps x (x.over w') r :=
  Keeps.same rfl rfl fun a n hl ha hr => by
    have e := over_block M hh hg hrow hl ha
    unfold Roomy at *
    rw [e]; exact hr
theorem over_mem : Mem (x.over w') := by
  refine ⟨fun r => ObjRel.congr (over_S M hh hg hrow) (over_keeps M hh hg hrow) rfl (fun a hl ha => over_block M hh hg hrow hl ha) (fun _ => ⟨fun _ => rfl, rfl, rfl⟩) (M.objs r), M.apart, fun p b hb => ⟨?_, (M.still p b hb).2⟩, M.sub, M.len⟩
  rw [((over_S M hh hg hrow).on p b hb).2]
  exact (M.still p b hb).1
end

theorem Goes.foreign {x0 x : Ctx} {w0 w w' : World} {row : Option Nat} (G : Goes x0 w0 x w) (hg : w.grownBy w' row) (hrow : ∀ r, row = some r → w0.heap.size ≤ r ∧ (∀ p, ¬ x.S p r) ∧ ¬ Owned x r) :
    Goes x0 w0 (x.over w') w' ∧ (∀ (v : AVal) (u : Value), v.V x u → v.V (x.over w') u) := by
  have hr := fun r e => (hrow r e).2
  have hS := over_S G.mem G.h hg hr
  have hK := over_keeps G.mem G.h hg hr
  refine ⟨⟨over_mem G.mem G.h hg hr, rfl, ⟨fun p b hb => ?_, G.S.at_⟩, G.pl, G.at_, fun r => (G.keeps r).trans (hK r), hg.os.trans G.os, hg.tape.trans G.tape, hg.output.trans G.output, Nat.le_trans G.size hg.size, fun b hb ho => ?_, G.own, G.newS⟩, fun v u h => h.mono hS hK⟩
  · obtain ⟨h1, h2⟩ := G.S p b hb
    exact ⟨h1, ((hS p b h1).2).trans h2⟩
  · rw [hg.block b (Nat.lt_of_lt_of_le hb G.size) fun e => by have := (hrow b e.symm).1; omega]
    exact G.frame b hb ho

/-- The return of a function whose marks hold nothing: the context goes on, and the results are read. -/
theorem leaves_marked {P : Program} {fn : Func} {R : Ending → World → Prop} {x0 : Ctx} {w0 : World} {tmps : Array Value} : ∀ (ds : List Deferred) (x : Ctx) (w : World), Goes x0 w0 x w → Marked x w0 w ds →
    (∀ (x' : Ctx) (w' : World), Goes x0 w0 x' w' → x'.σ = x.σ → (∀ (v : AVal) (u : Value), v.V x u → v.V x' u) → ∃ v, (results fn tmps).run P w' = .ok v w' ∧ R (.returned v) w') →
    LeavesInM Fence.wide 0 P fn tmps R ds .returning w
  | [], x, w, G, _, fin => fin x w G rfl fun _ _ h => h
  | d :: ds, x, w, G, M, fin => by
    obtain ⟨D, rfl, h2, h3, h4, h5, h6⟩ := M.each d (by simp)
    have hg := grownBy_putObj' w D (.deferred none)
    obtain ⟨G', hV⟩ := Goes.foreign G hg (row := some D) (fun r e => by cases e; exact ⟨h2, h6, h5⟩)
    have hap := List.pairwise_cons.1 M.apart
    refine ⟨(by intro h; cases h), .inl ⟨D, _, rfl, run_takeDeferred h4, ?_⟩⟩
    refine leaves_marked ds (x.over (w.putObj D (.deferred none))) _ G' ⟨fun e he => ?_, hap.2⟩ fun x' w' G2 h7 h8 => fin x' w' G2 h7 fun v u h => h8 v u (hV v u h)
    obtain ⟨E, rfl, k2, k3, k4, k5, k6⟩ := M.each e (by simp [he])
    have hne : E ≠ D := fun x => hap.1 _ he (by rw [x])
    exact ⟨E, rfl, k2, Nat.lt_of_lt_of_le k3 hg.size, (World.putObj_heap_other hne).trans k4, k5, k6⟩

section
variable {P : Program} {T : Tbl} {fns : Fns} {R : Type} {fuel : Nat}

theorem pad_obj (x : Ctx) (n r : Nat) : ({ x with σ := x.σ ++ List.replicate n .free } : Ctx).obj r = x.obj r := by
  have hg : ∀ r, (x.σ ++ List.replicate n AObj.free).getD r .free = x.σ.getD r .free := fun r => by
    simp only [List.getD_eq_getElem?_getD]
    rcases Nat.lt_or_ge r x.σ.length with h | h
    · rw [List.getElem?_append_left h]
    · rw [List.getElem?_append_right h, List.getElem?_eq_none (l := x.σ) h, List.getElem?_replicate]
      split <;> rfl
  show objAt (x.σ ++ List.replicate n AObj.free) r = objAt x.σ r
  unfold objAt
  rw [hg, hg]

theorem pad_goes {x : Ctx} {w : World} (M : Mem x) (hh : x.h = fun b => w.heap[b]?) (n : Nat) (hn : x.σ.length + n ≤ 64) : Goes x w { x with σ := x.σ ++ List.replicate n .free } w := by
  have hk : ∀ r, Keeps x { x with σ := x.σ ++ List.replicate n .free } r := fun r => Keeps.same (pad_obj x n r) rfl fun _ _ _ _ h => h
  refine { Goes.refl M hh with mem := ?_, S := ⟨fun _ _ h => ⟨h, rfl⟩, fun _ _ _ h => h⟩, pl := rfl, at_ := fun _ _ => rfl, keeps := hk, own := fun b hb => ?_ }
  · refine M.objects rfl rfl rfl (fun r => ?_) (fun r h => by rw [pad_obj] at h; exact h) (by show (x.σ ++ List.replicate n AObj.free).length ≤ 64; simpa using hn)
    rw [pad_obj]
    exact ObjRel.congr (x := x) (x' := { x with σ := x.σ ++ List.replicate n .free }) (⟨fun _ _ h => ⟨h, rfl⟩, fun _ _ _ h => h⟩) hk rfl (fun _ _ _ => rfl) (fun _ => ⟨fun _ => rfl, rfl, rfl⟩) (M.objs r)
  · obtain ⟨r, a, l, m, e⟩ := hb
    rw [pad_obj] at l
    exact .inl ⟨r, a, l, m, e⟩

def resOf (tmps : Array Value) : ResultVar → Sem Value
  | .tmp t => pure (tmps.getD t undef)
  | .cell a t => do loadVar t (← asAddr (tmps.getD a undef))

theorem load_res (hT : TblOk P T) {get : Nat → Option AObj} {x : Ctx} {w : World} (M : Mem x) (hh : x.h = fun b => w.heap[b]?) (hobj : ∀ r ob, get r = some ob → x.σ[r]? = some ob) {t : TypeId} {v : AVal} {u0 : Value} (hv : v.V x u0) {k : AVal → Ups → Option R} {z : R}
    (hk : actLoad T get t v k = some z) : ∃ u val, k u [] = some z ∧ u.V x val ∧ (do loadVar t (← asAddr u0) : Sem Value).run P w = .ok val w := by
  have hat0 : ∀ {b : Nat} {o : Obj}, x.h b = some o → w.heap[b]? = some o := fun {b o} h => by have := hh ▸ h; exact this
  unfold actLoad at hk
  split at hk
  case h_2 => cases hk
  rename_i d hd
  split at hk
  · rename_i r g p
    cases hg : get r with
    | none => unfold rootK at hk; rw [hg] at hk; cases hk
    | some ob =>
      obtain ⟨b, hb, hbf, blk, off0, c, e, h1, h2, ⟨pre, cs, post, h3, h4, h5⟩, s, of, hat, hu⟩ := ptr_at M (obj_of_get M (hobj r ob hg)) hg hk hv
      obtain ⟨u, hget, hk2⟩ := getK_inv p b _ z hb
      obtain ⟨hd2, hk3⟩ := cond_some hk2
      obtain ⟨hsz, hag⟩ := isAs_size hd2
      obtain ⟨of', hat', pre', mid, post', rfl, hp', hm⟩ := getK_sound p b u cs h5 hget
      rw [hat] at hat'; cases hat'
      have hfl : u.flat = true := flat_getK p b u hbf hget
      refine ⟨u, valueOf u.agg mid, hk3, V_valueOf hm fun ha => agg_one hm ha hfl, ?_⟩
      have hl := run_loadVar_at hT hd (hat0 h2) (o := off0 + of) (mid := mid) (fun j v hv => by
        have := all2_drop_get (c := c) (pre := pre ++ pre') (mid := mid) (post := post' ++ post) (by rw [h3]; simp) j hv
        simpa [h4, hp'] using this) (by rw [hsz, AVal.C.length _ _ hm]) (fun hf => agg_one hm (hag ▸ hf) hfl)
      simp only [asAddr, hu, Sem.run_bind, Sem.run_pure, Result.andThen_ok, hl, hag]
  · rename_i own τ y
    obtain ⟨hd2, hk3⟩ := cond_some hk
    obtain ⟨hsz, hag⟩ := isAs_size hd2
    obtain ⟨b, of, ds, hu, h1, ⟨c, e, fr, h2, h3⟩, h4⟩ := (show (AVal.ref own τ y).C x [u0] from hv)
    simp only [List.cons.injEq, and_true] at hu
    have hm : (AVal.dat own τ y).C x ds := h4
    refine ⟨_, valueOf (AVal.dat own τ y).agg ds, hk3, V_valueOf hm fun ha => agg_one hm ha rfl, ?_⟩
    have hl := run_loadVar_at hT hd (hat0 h2) (o := of) (mid := ds) h3 (by rw [hsz, AVal.C.length _ _ hm]) (fun hf => agg_one hm (hag ▸ hf) rfl)
    simp only [asAddr, hu, Sem.run_bind, Sem.run_pure, Result.andThen_ok, hl, hag]
  · cases hk

theorem resK_ok (hT : TblOk P T) {x : Ctx} {st : St} {tmps : Array Value} {w : World} (M : Mem x) (hh : x.h = fun b => w.heap[b]?) (hσ : x.σ = st.σ) (hs : ∀ i v, st.slots i = some v → ∃ u, tmps[i]? = some u ∧ v.V x u) :
    ∀ (rs : List ResultVar) (k : AVal → Option R) (z : R), resK R T st rs k = some z → ∃ vs us, k vs = some z ∧ vs.C x us ∧ (rs.mapM (resOf tmps)).run P w = .ok us w ∧ us.length = rs.length ∧ (rs = [] → vs = .nil) ∧
      (∀ r rs', rs = r :: rs' → ∃ v vs', vs = .cons v vs' ∧ (rs' = [] → vs' = .nil) ∧ (∀ r2 rs2, rs' = r2 :: rs2 → ∃ v2 vs2, vs' = .cons v2 vs2)) := by
  intro rs
  induction rs with
  | nil => intro k z h; exact ⟨.nil, [], h, rfl, by simp, rfl, fun _ => rfl, fun _ _ e => by cases e⟩
  | cons r rs ih =>
    intro k z h
    -- one result, the others behind it
    have rest : ∀ {v : AVal} {u : Value} (hv : v.V x u) (hrun : (resOf tmps r).run P w = .ok u w) (h : resK R T st rs (fun vs => k (.cons v vs)) = some z), ∃ vs us, k vs = some z ∧ vs.C x us ∧ ((r :: rs).mapM (resOf tmps)).run P w = .ok us w ∧ us.length = (r :: rs).length ∧ (r :: rs = [] → vs = .nil) ∧
      (∀ r' rs', r :: rs = r' :: rs' → ∃ v vs', vs = .cons v vs' ∧ (rs' = [] → vs' = .nil) ∧ (∀ r2 rs2, rs' = r2 :: rs2 → ∃ v2 vs2, vs' = .cons v2 vs2)) := by
      intro v u hv hrun h
      obtain ⟨vs, us, h3, h4, h5, h6, h7, h8⟩ := ih _ z h
      refine ⟨.cons v vs, u :: us, h3, ⟨u, us, rfl, hv, h4⟩, ?_, by simp [h6], (fun e => by cases e), fun r' rs' e => ?_⟩
      · simp only [List.mapM_cons, hrun, Sem.run_bind, Sem.run_pure, Result.andThen_ok, h5]
      · cases e
        exact ⟨v, vs, rfl, h7, fun r2 rs2 e2 => by obtain ⟨v2, vs2, e3, _⟩ := h8 r2 rs2 e2; exact ⟨v2, vs2, e3⟩⟩
    cases r with
    | tmp t =>
      unfold resK at h
      split at h
      · rename_i v hv
        obtain ⟨u, h1, h2⟩ := hs t v hv
        refine rest h2 ?_ h
        have : tmps.getD t undef = u := by simp [Array.getD_eq_getD_getElem?, h1]
        simp only [resOf, this, Sem.run_pure]
      · cases h
    | cell t ty =>
      unfold resK at h
      split at h
      · rename_i v hv
        obtain ⟨u, h1, h2⟩ := hs t v hv
        obtain ⟨v', val, h3, h4, h5⟩ := load_res (P := P) (w := w) hT M hh (fun r ob h => by rw [hσ]; exact h) h2 h
        refine rest h4 ?_ h3
        have : tmps.getD t undef = u := by simp [Array.getD_eq_getD_getElem?, h1]
        simp only [resOf, this]; exact h5
      · cases h

theorem retK_ok {x0 : Ctx} {w0 : World} {N : Nat} {fn : Func} {rs : List ResultVar} (hT : TblOk P T) (hr : fn.results = rs.toArray) {ks : List (Option (Nat × Nat))} {st : St} {k : AVal → List AObj → Option R} {z : R} (h : retK R T (x0.σ.map AObj.arr0) rs ks st k = some z) {a : Act} {w : World} (C : Conc x0 w0 N st a w) :
    LeavesInM Fence.wide 0 P fn a.tmps (fun e w' => ∃ v x' ret objs', k ret objs' = some z ∧ e = .returned v ∧ Goes x0 w0 x' w' ∧ x'.σ = objs' ∧ ret.V x' v) a.defers .returning w := by
  obtain ⟨⟨x1, hσ1, G1, hdf, hs1⟩, hsz⟩ := C
  refine leaves_marked a.defers x1 w G1 hdf fun x w G hσ0 hV => ?_
  have hσ : x.σ = st.σ := hσ0.trans hσ1
  have hs : ∀ i v, st.slots i = some v → ∃ u, a.tmps[i]? = some u ∧ v.V x u := fun i v hv => by
    obtain ⟨u, h1, h2⟩ := hs1 i v hv
    exact ⟨u, h1, hV v u h2⟩
  suffices H : ∃ v, (results fn a.tmps).run P w = .ok v w ∧ ∃ x' ret objs', k ret objs' = some z ∧ Goes x0 w0 x' w ∧ x'.σ = objs' ∧ ret.V x' v by
    obtain ⟨v, h2, x', ret, objs', h3, h4, h5, h6⟩ := H
    exact ⟨v, h2, v, x', ret, objs', h3, rfl, h4, h5, h6⟩
  unfold retK at h
  obtain ⟨hf, h⟩ := cond_some h
  obtain ⟨vs, us, h1, h2, h3, h4, h5, h6⟩ := resK_ok (P := P) (w := w) hT G.mem G.h hσ hs rs _ z h
  have hres : (results fn a.tmps).run P w = .ok (if h : us.toArray.size = 1 then us.toArray[0] else .tuple us.toArray) w := by
    unfold results
    rw [hr]
    have hm : (rs.toArray.mapM (resOf a.tmps)).run P w = .ok us.toArray w := by
      rw [Array.mapM_eq_mapM_toList, Sem.run_map, show rs.toArray.toList = rs from rfl, h3]; rfl
    rw [Sem.run_bind]
    show Result.andThen ((rs.toArray.mapM (resOf a.tmps)).run P w) _ = _
    rw [hm]; rfl
  refine ⟨_, hres, x.ren ks, ?_⟩
  rw [← hσ] at h1 hf
  have GR := ren_goes G hf
  have up : ∀ {v : AVal} {u : Value}, v.V x u → (v.told (renName ks x.σ)).V (x.ren ks) u := fun h => told_V ren_S (ren_names (renOk_of hf)) h
  have hobjs : (x.ren ks).σ = renObjs ks x.σ := rfl
  cases rs with
  | nil =>
    obtain rfl := h5 rfl
    obtain rfl : us = [] := by simpa using h4
    exact ⟨_, _, h1, GR, hobjs, up (v := .tup .nil) (u := .tuple #[]) ⟨[], rfl, h2⟩⟩
  | cons r rs =>
    obtain ⟨v, vs', rfl, h7, h8⟩ := h6 r rs rfl
    cases rs with
    | nil =>
      obtain rfl := h7 rfl
      obtain ⟨u, us', rfl, hu, hn⟩ := h2
      obtain rfl : us' = [] := hn
      exact ⟨_, _, h1, GR, hobjs, up hu⟩
    | cons r2 rs2 =>
      obtain ⟨v2, vs2, rfl⟩ := h8 r2 rs2 rfl
      have hne : ¬ us.toArray.size = 1 := by simp only [List.size_toArray]; simp at h4; omega
      rw [dif_neg hne]
      exact ⟨_, _, h1, GR, hobjs, up (v := .tup (.cons v (.cons v2 vs2))) (u := .tuple us.toArray) ⟨us, rfl, h2⟩⟩

theorem countTo_get : ∀ (args : List AVal) (i0 i : Nat) (v : AVal), slotsAt (countTo i0 args.length) args i = some v → ∃ j, i = i0 + j ∧ args[j]? = some v := by
  intro args
  induction args with
  | nil => intro i0 i v h; cases h
  | cons a args ih =>
    intro i0 i v h
    simp only [List.length_cons, countTo, slotsAt] at h
    cases hb : Nat.beq i i0 with
    | true => rw [hb] at h; cases h; exact ⟨0, Nat.eq_of_beq_eq_true hb, rfl⟩
    | false => rw [hb] at h; obtain ⟨j, h1, h2⟩ := ih _ _ _ h; exact ⟨j + 1, by omega, by simpa using h2⟩

theorem fun_sound (hT : TblOk P T) (hfns : FnsOk P fns) (hm : P.follows .mixedOrders = true) {f : FuncId} {fn : Func} {fd : FunDef} (hf : P.funcs[f]? = some fn) (hb : fn.body = some fd.code.erase) (hr : fn.results = fd.results.toArray) (hn : fn.ntmps = fd.ntmps)
    (hok : fd.code.ok fd.ntmps = true) (hsm : fd.code.same) {subs : Subs R} (hsubs : SubsOk P fd.g0 fd.ntmps subs) (hh : fd.code.holes = fd.code.fills subs) {args : List AVal} {objs : List AObj} (hg : objs.map AObj.arr0 = fd.g0) (hlen : Nat.ble args.length fd.ntmps = true) {k : AVal → List AObj → Option R} {z : R} (h : runF R T fns fuel subs fd args objs k = some z)
    {x : Ctx} {w : World} {vals : Array Value} (M : Mem x) (hhp : x.h = fun b => w.heap[b]?) (hσ : x.σ = objs) (ha : All2 (fun v u => v.V x u) args vals.toList) :
    Calls P f vals w fun e w' => ∃ v x' ret objs', k ret objs' = some z ∧ e = .returned v ∧ Goes x w x' w' ∧ x'.σ = objs' ∧ ret.V x' v := by
  subst hσ
  unfold runF at h
  obtain ⟨hroom, h⟩ := cond_some h
  have hroom : x.σ.length + fd.room ≤ 64 := by
    have := Nat.le_of_ble_eq_true hroom
    rwa [← hg, List.length_map] at this
  rw [← hg] at hsubs h
  refine callsIn_wide.1 (callsIn_of_wp_marks (F := Fence.wide) (n := 0) hf hb trivial (wpIn_wide.2 ?_))
  have hl : vals.size = args.length := by have := ha.1; simpa using this.symm
  have hle : args.length ≤ fd.ntmps := Nat.le_of_ble_eq_true hlen
  have C : Conc x w fd.ntmps ⟨slotsAt (countTo 0 args.length) args, x.σ ++ List.replicate fd.room .free⟩ { tmps := vals ++ Array.replicate (fn.ntmps - vals.size) undef, defers := [] } w := by
    refine ⟨⟨_, rfl, pad_goes M hhp fd.room hroom, Marked.nil _ _ _, fun i v hv => ?_⟩, ?_⟩
    · obtain ⟨j, h1, h2⟩ := countTo_get _ _ _ _ hv
      rw [Nat.zero_add] at h1; subst h1
      obtain ⟨u, h3, h4⟩ := ha.get h2
      refine ⟨u, ?_, h4.mono (pad_goes M hhp fd.room hroom).S (pad_goes M hhp fd.room hroom).keeps⟩
      have hlt : i < vals.size := by rw [hl]; exact (List.getElem?_eq_some_iff.1 h2).1
      show (vals ++ Array.replicate (fn.ntmps - vals.size) undef)[i]? = some u
      rw [Array.getElem?_append_left hlt]
      simpa using h3
    · show (vals ++ Array.replicate (fn.ntmps - vals.size) undef).size = fd.ntmps
      simp [hn]; omega
  refine run_sound (x0 := x) (w0 := w) (N := fd.ntmps) hT hfns hm hsubs fd.code hok hsm hh _ _ _ _ _ h C fun e st' a' w' h' C' => ?_
  cases e with
  | normal =>
    exact retK_ok (P := P) hT hr h' C'
  | ret ks =>
    exact retK_ok (P := P) hT hr h' C'
  | exit id => cases h'

/-- A function told as plain data: what goes in, what it does, what comes out. -/
def funAs {Y Z : Type} (inp : List AVal → List AObj → Option Y) (plain : Y → Option Z) (encV : Z → AVal) (encO : Z → List AObj) : Fun := fun _ args objs k => match inp args objs with
  | some y => match plain y with
    | some z => k (encV z) (encO z)
    | none => none
  | none => none

/-- A function, from what the machine's run of it comes to, told as plain data. -/
theorem funOk_of {Y Z : Type} (hT : TblOk P T) (hfns : FnsOk P fns) (hm : P.follows .mixedOrders = true) {f : FuncId} {fn : Func} {fd : FunDef} (hf : P.funcs[f]? = some fn) (hbody : (fn.name == "runtime.NumGoroutine") = false) (hb : fn.body = some fd.code.erase) (hr : fn.results = fd.results.toArray) (hn : fn.ntmps = fd.ntmps)
    (hok : fd.code.ok fd.ntmps = true) (hsm : fd.code.same) {subs : Subs Z} (hsubs : SubsOk P fd.g0 fd.ntmps subs) (hh : fd.code.holes = fd.code.fills subs)
    (inp : List AVal → List AObj → Option Y) (plain : Y → Option Z) (dec : AVal → List AObj → Option Z) (encV : Z → AVal) (encO : Z → List AObj)
    (hdec : ∀ v os z, dec v os = some z → v = encV z ∧ os = encO z)
    (hrun : ∀ args objs y, inp args objs = some y → (Nat.ble args.length fd.ntmps = true ∧ objs.map AObj.arr0 = fd.g0) ∧ runF Z T fns fuel subs fd args objs dec = plain y) :
    FunOk P f (funAs inp plain encV encO) := by
  refine ⟨⟨fn, hf, by rw [hb]; rfl, hbody⟩, fun R args objs k z h => ?_⟩
  unfold funAs at h ⊢
  cases hi : inp args objs with
  | none => simp only [hi] at h; cases h
  | some y =>
    simp only [hi] at h ⊢
    cases hp : plain y with
    | none => simp only [hp] at h; cases h
    | some z' =>
      simp only [hp] at h ⊢
      obtain ⟨h1, h2⟩ := hrun args objs y hi
      refine ⟨_, _, h, fun _ _ => rfl, fun x w vals M hhp hσ ha => ?_⟩
      refine (fun_sound hT hfns hm hf hb hr hn hok hsm hsubs hh h1.2 h1.1 (h2.trans hp) M hhp hσ ha).mono fun e w' hq => ?_
      obtain ⟨v, x', ret, objs', h3, rfl, h4, h5, h6⟩ := hq
      obtain ⟨rfl, rfl⟩ := hdec _ _ _ h3
      exact ⟨v, x', rfl, h4, h5, h6⟩
end
end Go.Am
