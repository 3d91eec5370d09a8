/- The abstract machine, seventeenth part: calls. -/
import Derived.Test.YtiecnmmffplgcaaAmP
namespace Go.Am

/-- A function: what it answers, and what it leaves of the objects that it is handed. -/
abbrev Fun := (R : Type) → List AVal → List AObj → (AVal → List AObj → Option R) → Option R
abbrev Fns := FuncId → Option Fun

structure FunOk (P : Program) (f : FuncId) (F : Fun) : Prop where
  body : ∃ fn, P.funcs[f]? = some fn ∧ fn.body.isSome = true ∧ (fn.name == "runtime.NumGoroutine") = false
  run : ∀ (R : Type) (args : List AVal) (objs : List AObj) (k : AVal → List AObj → Option R) (z : R), F R args objs k = some z → ∃ ret objs', k ret objs' = some z ∧ (∀ (R' : Type) (k' : AVal → List AObj → Option R'), F R' args objs k' = k' ret objs') ∧
    ∀ (x : Ctx) (w : World) (vals : Array Value), Mem x → (x.h = fun b => w.heap[b]?) → x.σ = objs → All2 (fun v u => v.V x u) args vals.toList →
      Calls P f vals w fun e w' => ∃ v x', e = .returned v ∧ Goes x w x' w' ∧ x'.σ = objs' ∧ ret.V x' v

def FnsOk (P : Program) (fns : Fns) : Prop := ∀ f F, fns f = some F → FunOk P f F

/-- A value as data of a type, where rows of the call's own are lent; which. -/
def borrowTo (get : Nat → Option AObj) : (t : Ty) → AVal → Option (t.den × List Nat)
  | t, .dat _ t' d => if h : t' = t then some (h ▸ d, []) else none
  | .slice t, .slc r g => match get r with
    | some (.arr g' t' xs) => bif Nat.beq g g' then (if h : t' = t then some (h ▸ xs, [r]) else none) else none
    | _ => none
  | .slice t, .sub r g lo len _ => match get r with
    | some (.arr g' t' xs) => bif Nat.beq g g' then (if h : t' = t then some (h ▸ ((xs.drop lo).take len), [r]) else none) else none
    | _ => none
  | .slice _, .nils => some ([], [])
  | .pair a b, .pair u v => match borrowTo get a u, borrowTo get b v with
    | some (d, l), some (e, m) => some ((d, e), l ++ m)
    | _, _ => none
  | .one a, .one u => match borrowTo get a u with
    | some (d, l) => some (d, l)
    | none => none
  | _, _ => none

def lendK (get : Nat → Option AObj) : List (Option Ty) → List AVal → Option (List AVal × List Nat)
  | some t :: ts, v :: vs => match borrowTo get t v, lendK get ts vs with
    | some (d, b), some (vs', bs) => some (.dat false t d :: vs', b ++ bs)
    | _, _ => none
  | none :: ts, v :: vs => match lendK get ts vs with
    | some (vs', bs) => some (v.weak :: vs', bs)
    | none => none
  | [], [] => some ([], [])
  | [], v :: vs => match lendK get [] vs with
    | some (vs', bs) => some (v.weak :: vs', bs)
    | none => none
  | _ :: _, [] => none

def getAll (get : Nat → Option AObj) : List Nat → Option (List AObj)
  | [] => some []
  | r :: l => match get r, getAll get l with
    | some o, some os => some (o :: os)
    | _, _ => none

structure Ann where
  touch : List Nat := []
  base : Nat := 0
  ro : Bool := true
  loc : List Nat := []
  fresh : Nat := 0
  lend : List (Option Ty) := []
  mode : Nat := 0

def memB (l : List Nat) (r : Nat) : Bool := l.any (Nat.beq r ·)

def nodupB : List Nat → Bool
  | [] => true
  | r :: l => !memB l r && nodupB l

def callFits (get : Nat → Option AObj) (an : Ann) (objs : List AObj) (bor : List Nat) : Bool :=
  nodupB an.loc && objs.all AObj.live && (List.range an.fresh).all (fun j => match get (an.base + j) with | some .free => true | _ => false) &&
    bor.all (fun r => !memB an.loc r && (match get r with | some o => o.live | none => false))

def leftFits (an : Ann) (objs objs' : List AObj) (bor : List Nat) (ret : AVal) : Bool :=
  Nat.beq objs'.length (an.loc.length + an.fresh) && (objs.zip objs').all (fun p => sameKind p.1 p.2) && (bor.isEmpty || (ret.kept && objs'.all AObj.kept))

def actCall {R : Type} (get : Nat → Option AObj) (an : Ann) (F : Fun) (args : List AVal) (k : AVal → Ups → Option R) : Option R :=
  match getAll get an.loc, lendK get an.lend args with
  | some objs, some (args1, bor) => bif callFits get an objs bor then
      F R (args1.map (AVal.refs (locName an.loc (objs.map genOf)))) (objs.map (locObj (locName an.loc (objs.map genOf)))) fun ret objs' =>
        bif leftFits an objs objs' bor ret then
          k (ret.refs (backName an.loc (objs.map genOf) an.base)) ((an.loc ++ List.range' an.base an.fresh).zip ((List.range (an.loc.length + an.fresh)).map fun i =>
            backObj (backName an.loc (objs.map genOf) an.base) ((objs.map genOf).getD i 0) (objs'.getD i .free)))
        else none
    else none
  | _, _ => none

section
variable {P : Program} {T : Tbl} {ρ : Operand → Option AVal} {get : Nat → Option AObj} {a : Act} {w : World} {x : Ctx} {R : Type} {loc bor : List Nat}

theorem memB_iff {l : List Nat} {r : Nat} : memB l r = true ↔ r ∈ l := by
  unfold memB
  rw [List.any_eq_true]
  constructor
  · rintro ⟨q, hq, h⟩; rw [Nat.eq_of_beq_eq_true h]; exact hq
  · intro h; exact ⟨r, h, Nat.beq_refl r⟩

theorem nodupB_iff : ∀ {l : List Nat}, nodupB l = true → l.Nodup := by
  intro l
  induction l with
  | nil => intro _; exact List.nodup_nil
  | cons r l ih =>
    intro h
    unfold nodupB at h
    rw [Bool.and_eq_true] at h
    rw [List.nodup_cons]
    exact ⟨(fun hm => by rw [memB_iff.2 hm] at h; cases h.1), ih h.2⟩

theorem getAll_get : ∀ {l : List Nat} {os : List AObj}, getAll get l = some os → All2 (fun r o => get r = some o) l os := by
  intro l
  induction l with
  | nil => intro os h; cases h; exact .nil
  | cons r l ih =>
    intro os h
    unfold getAll at h
    split at h
    · rename_i o os' h1 h2; cases h; exact .cons h1 (ih h2)
    · cases h

/-- A row of the call's own, as data that are lent. -/
theorem lent_row (M : Mem x) {r g' : Nat} {t : Ty} {xs : List t.den} (hobj : x.obj r = .arr g' t xs) {b o : Nat} (hμ : x.μ r = some ⟨b, o, none⟩) (hbor : r ∈ bor) :
    (x.loc loc bor).S false b ∧ ∃ css, Holds x.h b o css.flatten ∧ All2 (t.Rel (x.loc loc bor).h ((x.loc loc bor).S false)) xs css := by
  have hrel := M.objs r
  rw [hobj] at hrel
  rcases hrel with ⟨h1, _⟩ | ⟨b', o', c, e, css, h1, h2, h3, pre, post, h4, h5⟩
  · rw [h1] at hμ; cases hμ
  · rw [h1] at hμ; cases hμ
    refine ⟨.inr ⟨rfl, r, hbor, _, by rw [hobj]; rfl, h1, rfl⟩, css, ⟨c, e, (0, 0), h2, fun j v hv => ?_⟩, h3.mono fun _ _ h => h.congr fun b hb => ⟨.inl (M.sub b hb), rfl⟩⟩
    have := all2_drop_get h4 j hv
    rw [h5] at this; exact this

theorem borrow_C (M : Mem x) (hobj : ∀ r ob, get r = some ob → x.σ[r]? = some ob) : ∀ (t : Ty) (v : AVal) (d : t.den) (bs : List Nat) (cs : List Value), borrowTo get t v = some (d, bs) → (∀ r ∈ bs, r ∈ bor) → v.C x cs → (AVal.dat false t d).C (x.loc loc bor) cs := by
  have hdat : ∀ (q : Bool) (t t' : Ty) (d' : t'.den) (d : t.den) (cs : List Value) (bs : List Nat), (if h : t' = t then some (h ▸ d', ([] : List Nat)) else none) = some (d, bs) → (AVal.dat q t' d').C x cs → (AVal.dat false t d).C (x.loc loc bor) cs := by
    intro q t t' d' d cs bs h hC
    split at h
    · rename_i ht
      subst ht
      cases h
      exact Ty.Rel.congr (fun b hb => ⟨.inl (by cases q with | true => exact M.sub b hb | false => exact hb), rfl⟩) _ _ _ hC
    · cases h
  intro t
  induction t with
  | slice t ih =>
    intro v d bs cs h hb hC
    cases v with
    | dat q t' d' => exact hdat q _ _ _ _ _ bs (by simpa only [borrowTo] using h) hC
    | slc r g =>
      simp only [borrowTo] at h
      split at h
      · rename_i g' t' xs hg
        obtain ⟨hgg, h⟩ := cond_some h
        split at h
        · rename_i ht
          subst ht
          cases h
          have hob := obj_of_get (hobj r _ hg)
          obtain ⟨c, rfl, _, hr⟩ := hC
          unfold SlcRel at hr
          rw [hob] at hr
          have hr := hr.2 (Nat.eq_of_beq_eq_true hgg)
          have hrel := M.objs r
          rw [hob] at hrel
          rcases hrel with ⟨h1, h3⟩ | ⟨b, o, c', e, css, h1, _⟩
          · simp only [h1] at hr
            obtain ⟨b0, rfl⟩ := hr
            subst h3
            exact ⟨b0, 0, 0, rfl, rfl, Nat.le_refl _, fun _ => rfl, fun h => absurd h (Nat.lt_irrefl _)⟩
          · simp only [h1] at hr
            obtain ⟨cap, rfl, h5, _⟩ := hr
            obtain ⟨h6, css', h7, h8⟩ := lent_row (loc := loc) (bor := bor) M hob h1 (hb r (by simp))
            exact ⟨some ⟨b, o, none⟩, _, cap, rfl, rfl, h5, (fun e => by cases e), fun _ => ⟨b, o, rfl, h6, css', h7, h8⟩⟩
        · cases h
      · cases h
    | sub r g lo len ex =>
      simp only [borrowTo] at h
      split at h
      · rename_i g' t' xs hg
        obtain ⟨hgg, h⟩ := cond_some h
        split at h
        · rename_i ht
          subst ht
          cases h
          have hob := obj_of_get (hobj r _ hg)
          obtain ⟨c, rfl, _, hr⟩ := hC
          unfold SubRel at hr
          rw [hob] at hr
          obtain ⟨hle, base, cap, rfl, h5, _, _, h6, h7⟩ := hr.2 (Nat.eq_of_beq_eq_true hgg)
          have hlen : ((xs.drop lo).take len).length = len := by rw [List.length_take, List.length_drop]; omega
          refine ⟨base, len, cap, rfl, hlen.symm, h5, h6, fun hp => ?_⟩
          cases base with
          | none => have := h6 rfl; omega
          | some b1 =>
            obtain ⟨a0, h8, h10⟩ := h7 b1 rfl (by omega)
            have hrel := M.objs r
            rw [hob] at hrel
            rcases hrel with ⟨h1, h3⟩ | ⟨b, o, c', e, css, h1, _⟩
            · rw [h1] at h8; cases h8
            · rw [h1] at h8; cases h8
              rw [add_mk] at h10; subst h10
              obtain ⟨h6, css', ⟨c2, e2, fr2, h11, h12⟩, h8⟩ := lent_row (loc := loc) (bor := bor) M hob h1 (hb r (by simp))
              have hle2 : (css'.take lo).flatten.length = lo * t'.size := by
                rw [flatten_length (n := t'.size) (fun c hc => h8.lengths c (List.mem_of_mem_take hc)), List.length_take, Nat.min_eq_left (by rw [← h8.1]; omega)]
              refine ⟨b, _, rfl, h6, (css'.drop lo).take len, ⟨c2, e2, fr2, h11, fun j v hv => ?_⟩, ⟨by simp [List.length_take, List.length_drop, h8.1], fun i u v hu hv => ?_⟩⟩
              · have := h12 (lo * t'.size + j) v (by
                  have e3 : css'.flatten = (css'.take lo).flatten ++ (((css'.drop lo).take len).flatten ++ ((css'.drop lo).drop len).flatten) := by
                    rw [← List.flatten_append, List.take_append_drop, ← List.flatten_append, List.take_append_drop]
                  rw [e3, List.getElem?_append_right (by omega), hle2, show lo * t'.size + j - lo * t'.size = j by omega, List.getElem?_append_left (List.getElem?_eq_some_iff.1 hv).1]; exact hv)
                rw [← this]; congr 1; omega
              · rw [List.getElem?_take] at hu hv
                split at hu
                · rename_i hi
                  rw [if_pos hi] at hv
                  rw [List.getElem?_drop] at hu hv
                  exact h8.2 _ u v hu hv
                · cases hu
        · cases h
      · cases h
    | nils =>
      simp only [borrowTo, Option.some.injEq, Prod.mk.injEq] at h
      obtain ⟨rfl, _⟩ := h
      obtain ⟨b0, rfl⟩ := hC
      exact ⟨b0, 0, 0, rfl, rfl, Nat.le_refl _, fun _ => rfl, fun h => absurd h (Nat.lt_irrefl _)⟩
    | _ => simp only [borrowTo] at h; cases h
  | pair ta tb iha ihb =>
    intro v d bs cs h hb hC
    cases v with
    | dat q t' d' => exact hdat q _ _ _ _ _ bs (by simpa only [borrowTo] using h) hC
    | pair u v =>
      simp only [borrowTo] at h
      split at h
      · rename_i d1 l e1 m h1 h2
        cases h
        obtain ⟨c1, c2, rfl, k1, k2⟩ := hC
        exact ⟨c1, c2, rfl, iha u d1 l c1 h1 (fun r hr => hb r (by simp [hr])) k1, ihb v e1 m c2 h2 (fun r hr => hb r (by simp [hr])) k2⟩
      · cases h
    | _ => simp only [borrowTo] at h; cases h
  | one t ih =>
    intro v d bs cs h hb hC
    cases v with
    | dat q t' d' => exact hdat q _ _ _ _ _ bs (by simpa only [borrowTo] using h) hC
    | one u =>
      simp only [borrowTo] at h
      split at h
      · rename_i d1 l h1
        cases h
        exact ih u _ _ cs h1 hb hC
      · cases h
    | _ => simp only [borrowTo] at h; cases h
  | _ =>
    intro v d bs cs h hb hC
    cases v with
    | dat q t' d' => exact hdat q _ _ _ _ _ bs (by simpa only [borrowTo] using h) hC
    | _ => simp only [borrowTo] at h; cases h
end
end Go.Am
