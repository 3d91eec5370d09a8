/- The abstract machine, fifteenth part: what a caller knows behind a call. -/
import Derived.Test.YtiecnmmffplgcaaAmN
namespace Go.Am

/-- The caller's state behind the call: y: what the callee left. -/
def Ctx.back (x y : Ctx) (loc bor : List Nat) (base fresh : Nat) : Ctx where
  h := y.h
  S := fun p b => if p = true then y.S true b else if bor = [] then y.S false b else x.S false b ∨ y.S true b
  μ := fun r => match findRef loc r with
    | some i => y.μ i
    | none => if base ≤ r ∧ r < base + fresh then y.μ (loc.length + (r - base)) else x.μ r
  σ := applyUps x.σ ((loc ++ List.range' base fresh).zip ((List.range (loc.length + fresh)).map fun i =>
    backObj (backName loc (loc.map fun r => genOf (x.obj r)) base) ((loc.map fun r => genOf (x.obj r)).getD i 0) (y.obj i)))

/-- What is asked of a call's annotation, and of what the callee left. -/
structure CallFits (x y : Ctx) (loc bor : List Nat) (base fresh : Nat) : Prop where
  nodup : loc.Nodup
  live : ∀ r ∈ loc, (x.obj r).live = true
  free : ∀ j, j < fresh → x.σ[base + j]? = some .free
  lent : ∀ r ∈ bor, r ∉ loc ∧ (x.obj r).live = true
  len : y.σ.length = loc.length + fresh
  kind : ∀ i r, loc[i]? = some r → sameKind (x.obj r) (y.obj i) = true
  kept : bor = [] ∨ ∀ i, (y.obj i).kept = true

section
variable {x y' : Ctx} {loc bor : List Nat} {base fresh : Nat} {w w' : World}

theorem zip_lookup : ∀ (ks : List Nat) (os : List AObj), ks.Nodup → ks.length = os.length → ∀ (i : Nat) k, ks[i]? = some k → lookUp (ks.zip os) k = os[i]? := by
  intro ks
  induction ks with
  | nil => intro os _ _ i k h; simp at h
  | cons k0 ks ih =>
    intro os hn hl i k h
    cases os with
    | nil => cases hl
    | cons o os =>
      rw [List.nodup_cons] at hn
      show (if k = k0 then some o else lookUp (ks.zip os) k) = _
      cases i with
      | zero => simp at h; subst h; simp
      | succ i =>
        have h' : ks[i]? = some k := by simpa using h
        rw [if_neg (fun e => hn.1 (by rw [← e]; exact List.mem_of_getElem? h'))]
        simpa using ih os hn.2 (by simpa using hl) i k h'

theorem zip_lookup_none : ∀ (ks : List Nat) (os : List AObj) (k : Nat), k ∉ ks → lookUp (ks.zip os) k = none := by
  intro ks
  induction ks with
  | nil => intro os k _; rfl
  | cons k0 ks ih =>
    intro os k h
    rw [List.mem_cons, not_or] at h
    cases os with
    | nil => rfl
    | cons o os => show (if k = k0 then some o else lookUp (ks.zip os) k) = _; rw [if_neg h.1]; exact ih os k h.2

theorem CallFits.keys (F : CallFits x y' loc bor base fresh) : (loc ++ List.range' base fresh).Nodup := by
  rw [List.nodup_append]
  refine ⟨F.nodup, List.nodup_range', fun a ha b hb e => ?_⟩
  subst e
  rw [List.mem_range'_1] at hb
  have := F.free (a - base) (by omega)
  rw [show base + (a - base) = a by omega] at this
  have hl := F.live a ha
  rw [obj_of_get this] at hl; cases hl

theorem CallFits.lt (F : CallFits x y' loc bor base fresh) : ∀ r ∈ loc ++ List.range' base fresh, r < x.σ.length := by
  intro r hr
  rcases List.mem_append.1 hr with hr | hr
  · rcases Nat.lt_or_ge r x.σ.length with h | h
    · exact h
    · have hl := F.live r hr
      unfold Ctx.obj at hl
      rw [List.getD_eq_getElem?_getD, List.getElem?_eq_none h] at hl; cases hl
  · rw [List.mem_range'_1] at hr
    have := F.free (r - base) (by omega)
    rw [show base + (r - base) = r by omega] at this
    exact (List.getElem?_eq_some_iff.1 this).1

/-- The objects behind the call. -/
theorem back_obj (F : CallFits x y' loc bor base fresh) (r : Nat) : (x.back y' loc bor base fresh).obj r =
    match findRef loc r with
    | some i => backObj (backName loc (loc.map fun r => genOf (x.obj r)) base) (genOf (x.obj r)) (y'.obj i)
    | none => if base ≤ r ∧ r < base + fresh then backObj (backName loc (loc.map fun r => genOf (x.obj r)) base) 0 (y'.obj (loc.length + (r - base))) else x.obj r := by
  have hlen : (loc ++ List.range' base fresh).length = ((List.range (loc.length + fresh)).map fun i => backObj (backName loc (loc.map fun r => genOf (x.obj r)) base) ((loc.map fun r => genOf (x.obj r)).getD i 0) (y'.obj i)).length := by simp
  have happ := applyUps_obj ((loc ++ List.range' base fresh).zip ((List.range (loc.length + fresh)).map fun i => backObj (backName loc (loc.map fun r => genOf (x.obj r)) base) ((loc.map fun r => genOf (x.obj r)).getD i 0) (y'.obj i))) x.σ
    (by rw [List.map_fst_zip (by rw [hlen]; exact Nat.le_refl _)]; exact F.keys) (fun p hp => F.lt p.1 (List.of_mem_zip hp).1) r
  show (applyUps x.σ _).getD r .free = _
  rw [happ]
  cases hf : findRef loc r with
  | some i =>
    have hi := findRef_get _ _ _ hf
    have hil : i < loc.length := (List.getElem?_eq_some_iff.1 hi).1
    have h1 : (loc ++ List.range' base fresh)[i]? = some r := by rw [List.getElem?_append_left hil]; exact hi
    rw [zip_lookup _ _ F.keys hlen i r h1]
    rw [List.getElem?_map, List.getElem?_range (by omega)]
    simp only [Option.map_some, Option.getD_some]
    rw [gens_at hi]
  | none =>
    have hnot := findRef_none _ _ hf
    by_cases hb : base ≤ r ∧ r < base + fresh
    · rw [if_pos hb]
      have h1 : (loc ++ List.range' base fresh)[loc.length + (r - base)]? = some r := by
        rw [List.getElem?_append_right (by omega), show loc.length + (r - base) - loc.length = r - base by omega, List.getElem?_range' (by omega)]
        congr 1; omega
      rw [zip_lookup _ _ F.keys hlen _ r h1, List.getElem?_map, List.getElem?_range (by omega)]
      simp only [Option.map_some, Option.getD_some]
      have : (loc.map fun r => genOf (x.obj r)).getD (loc.length + (r - base)) 0 = 0 := by
        rw [List.getD_eq_getElem?_getD, List.getElem?_eq_none (by simp)]; rfl
      rw [this]
    · rw [if_neg hb, zip_lookup_none]
      · rfl
      · intro hm
        rcases List.mem_append.1 hm with hm | hm
        · exact hnot hm
        · rw [List.mem_range'_1] at hm; exact hb hm

theorem back_μ (r : Nat) : (x.back y' loc bor base fresh).μ r = match findRef loc r with
    | some i => y'.μ i
    | none => if base ≤ r ∧ r < base + fresh then y'.μ (loc.length + (r - base)) else x.μ r := rfl

/-- Where an object of the callee's is now: which one it is to the caller. -/
theorem back_at (F : CallFits x y' loc bor base fresh) (i : Nat) (hi : i < loc.length + fresh) : ∃ r g0, (∀ g, backName loc (loc.map fun r => genOf (x.obj r)) base i g = some (r, g0 + g)) ∧
    (x.back y' loc bor base fresh).obj r = backObj (backName loc (loc.map fun r => genOf (x.obj r)) base) g0 (y'.obj i) ∧ (x.back y' loc bor base fresh).μ r = y'.μ i := by
  cases h : loc[i]? with
  | some r =>
    have hf := findRef_nodup loc F.nodup i r h
    refine ⟨r, genOf (x.obj r), fun g => ?_, ?_, ?_⟩
    · unfold backName; rw [h]; simp only [gens_at h]
    · rw [back_obj F, hf]
    · rw [back_μ, hf]
  | none =>
    have hl : loc.length ≤ i := by
      rcases Nat.lt_or_ge i loc.length with h1 | h1
      · rw [List.getElem?_eq_getElem h1] at h; cases h
      · exact h1
    have hr : findRef loc (base + (i - loc.length)) = none := by
      cases hf : findRef loc (base + (i - loc.length)) with
      | none => rfl
      | some j =>
        exfalso
        have hm := List.mem_of_getElem? (findRef_get _ _ _ hf)
        have h1 := F.live _ hm
        rw [obj_of_get (F.free (i - loc.length) (by omega))] at h1; cases h1
    refine ⟨base + (i - loc.length), 0, fun g => ?_, ?_, ?_⟩
    · unfold backName; rw [h]; simp
    · rw [back_obj F, hr]
      simp only
      rw [if_pos (by omega)]
      congr 2; omega
    · rw [back_μ, hr]
      simp only
      rw [if_pos (by omega)]
      congr 1; omega

theorem obj_beyond {i : Nat} (h : y'.σ.length ≤ i) : y'.obj i = .free := by
  unfold Ctx.obj; rw [List.getD_eq_getElem?_getD, List.getElem?_eq_none h]; rfl

theorem back_names (F : CallFits x y' loc bor base fresh) : Names y' (x.back y' loc bor base fresh) (backName loc (loc.map fun r => genOf (x.obj r)) base) := by
  refine ⟨fun i g r' g' p c h hp => ?_, fun i g r' g' c h hp => ?_, fun i g r' g' lo len ex c h hp => ?_, fun i r' g' c h hp => ?_⟩
  · by_cases hi : i < loc.length + fresh
    · obtain ⟨r, g0, h1, h2, h3⟩ := back_at F i hi
      rw [h1] at h; cases h
      unfold PtrRel at hp ⊢
      rw [h2, h3]
      cases ho : y'.obj i with
      | box v => rw [ho] at hp; simp only [backObj, refs_sh]; exact hp
      | arr g' t xs => rw [ho] at hp; simp only [backObj]; exact ⟨by omega, fun e => hp.2 (by omega)⟩
      | free => rw [ho] at hp; exact hp
      | _ => trivial
    · unfold PtrRel at hp; rw [obj_beyond (by rw [F.len]; omega)] at hp; exact hp.elim
  · by_cases hi : i < loc.length + fresh
    · obtain ⟨r, g0, h1, h2, h3⟩ := back_at F i hi
      rw [h1] at h; cases h
      unfold SlcRel at hp ⊢
      rw [h2, h3]
      cases ho : y'.obj i with
      | arr g' t xs => rw [ho] at hp; simp only [backObj]; exact ⟨by omega, fun e => hp.2 (by omega)⟩
      | free => rw [ho] at hp; exact hp
      | _ => trivial
    · unfold SlcRel at hp; rw [obj_beyond (by rw [F.len]; omega)] at hp; exact hp.elim
  · by_cases hi : i < loc.length + fresh
    · obtain ⟨r, g0, h1, h2, h3⟩ := back_at F i hi
      rw [h1] at h; cases h
      unfold SubRel at hp ⊢
      rw [h2, h3]
      cases ho : y'.obj i with
      | arr g' t xs => rw [ho] at hp; simp only [backObj]; exact ⟨by omega, fun e => hp.2 (by omega)⟩
      | free => rw [ho] at hp; exact hp
      | _ => trivial
    · unfold SubRel at hp; rw [obj_beyond (by rw [F.len]; omega)] at hp; exact hp.elim
  · by_cases hi : i < loc.length + fresh
    · obtain ⟨r, g0, h1, h2, h3⟩ := back_at F i hi
      rw [h1] at h; cases h
      unfold MapRel at hp ⊢
      rw [h2, h3]
      cases ho : y'.obj i with
      | map K V m bs clk => rw [ho] at hp; simp only [backObj]; exact hp
      | iter v s l => rw [ho] at hp; simp only [backObj]; exact hp
      | free => rw [ho] at hp; exact hp
      | _ => trivial
    · unfold MapRel at hp; rw [obj_beyond (by rw [F.len]; omega)] at hp; exact hp.elim
end
end Go.Am
