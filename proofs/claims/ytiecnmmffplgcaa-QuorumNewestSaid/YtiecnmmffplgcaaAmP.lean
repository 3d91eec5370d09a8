/- The abstract machine, sixteenth part: a call, seen from the caller. -/
import Derived.Test.YtiecnmmffplgcaaAmO
namespace Go.Am
section
variable {x y' : Ctx} {loc bor : List Nat} {base fresh : Nat} {w w' : World}

/-- y', but that nothing is lent. -/
def Ctx.unlent (y : Ctx) : Ctx := { y with S := fun _ => y.S true }

theorem unlent_keeps (y : Ctx) (r : Nat) : Keeps y y.unlent r := ⟨fun _ _ _ h => h, fun _ _ h => h, fun _ _ _ _ _ h => h, fun _ h => h⟩

theorem unlent_C {y : Ctx} {v : AVal} {cs : List Value} (hk : v.kept = true) (h : v.C y cs) : v.C y.unlent cs :=
  kept_C (x := y) (y := y.unlent) (fun _ hb => ⟨hb, rfl⟩) (unlent_keeps y) v cs hk h

/-- A value of the callee's, as the caller has it. -/
theorem back_C (G : Goes (x.loc loc bor) w y' w') (F : CallFits x y' loc bor base fresh) {v : AVal} {cs : List Value} (hk : bor = [] ∨ v.kept = true) (h : v.C y' cs) :
    (v.refs (backName loc (loc.map fun r => genOf (x.obj r)) base)).C (x.back y' loc bor base fresh) cs := by
  rcases hk with hb | hk
  · exact refs_C (x := y') (y := x.back y' loc bor base fresh) (fun p b hp => ⟨by
      show (if p = true then y'.S true b else if bor = [] then y'.S false b else _)
      cases p with
      | true => exact hp
      | false => rw [if_neg (by simp), if_pos hb]; exact hp, rfl⟩) (back_names F) v cs h
  · refine refs_C (x := y'.unlent) (y := x.back y' loc bor base fresh) (fun p b hp => ⟨?_, rfl⟩) ⟨(back_names F).ptr, (back_names F).slc, (back_names F).sub, (back_names F).map⟩ v cs (unlent_C hk h)
    show (if p = true then y'.S true b else if bor = [] then y'.S false b else _)
    have hp : y'.S true b := hp
    cases p with
    | true => exact hp
    | false =>
      rw [if_neg (by simp)]
      split
      · exact G.mem.sub b hp
      · exact .inr hp

theorem owned_back (F : CallFits x y' loc bor base fresh) {b : Nat} (h : Owned (x.back y' loc bor base fresh) b) : Owned y' b ∨ ∃ r a, r ∉ loc ∧ (x.obj r).live = true ∧ x.μ r = some a ∧ a.block = b := by
  obtain ⟨r, a, l, m, e⟩ := h
  rw [back_obj F] at l
  rw [back_μ] at m
  cases hf : findRef loc r with
  | some i =>
    rw [hf] at l m
    simp only [backObj_live] at l
    exact .inl ⟨i, a, l, m, e⟩
  | none =>
    rw [hf] at l m
    simp only at l m
    by_cases hb : base ≤ r ∧ r < base + fresh
    · rw [if_pos hb] at l m
      rw [backObj_live] at l
      exact .inl ⟨_, a, l, m, e⟩
    · rw [if_neg hb] at l m
      exact .inr ⟨r, a, findRef_none _ _ hf, l, m, e⟩

theorem call_goes (M : Mem x) (hh : x.h = fun b => w.heap[b]?) (G : Goes (x.loc loc bor) w y' w') (F : CallFits x y' loc bor base fresh) : Goes x w (x.back y' loc bor base fresh) w' := by
  have hlow : ∀ b, (x.h b).isSome = true → b < w.heap.size := fun b hb => by rw [hh] at hb; simpa using hb
  -- what the callee owned at first, the caller owned
  have own0 : ∀ b, Owned (x.loc loc bor) b → ∃ r a, r ∈ loc ∧ (x.obj r).live = true ∧ x.μ r = some a ∧ a.block = b := fun b h => by
    obtain ⟨i, r, a, h1, h2, h3, h4⟩ := loc_owned h
    exact ⟨r, a, List.mem_of_getElem? h1, h2, h3, h4⟩
  -- the blocks of the caller's other objects are none of the callee's
  have others : ∀ r a, r ∉ loc → (x.obj r).live = true → x.μ r = some a → ¬ Owned (x.loc loc bor) a.block ∧ ¬ Owned y' a.block ∧ w'.heap[a.block]? = w.heap[a.block]? := by
    intro r a hr hl ha
    have h1 : ¬ Owned (x.loc loc bor) a.block := fun h => by
      obtain ⟨r', a', h1, h2, h3, h4⟩ := own0 _ h
      exact M.apart r' r a' a (fun e => hr (e ▸ h1)) h2 hl h3 ha h4
    have hlt := hlow _ (M.there hl ha)
    refine ⟨h1, fun h => ?_, G.frame _ hlt h1⟩
    rcases G.own _ h with h2 | h2
    · exact h1 h2
    · omega
  have hS : ∀ p b, x.S p b → (x.back y' loc bor base fresh).S p b ∧ (x.back y' loc bor base fresh).h b = x.h b := by
    intro p b hb
    obtain ⟨h1, h2⟩ := G.S p b (.inl hb)
    refine ⟨?_, h2⟩
    show (if p = true then y'.S true b else if bor = [] then y'.S false b else _)
    cases p with
    | true => exact h1
    | false =>
      rw [if_neg (by simp)]
      split
      · exact h1
      · exact .inl hb
  have keeps : ∀ r, Keeps x (x.back y' loc bor base fresh) r := by
    intro r
    cases hf : findRef loc r with
    | some i =>
      have hi := findRef_get _ _ _ hf
      have hob : (x.back y' loc bor base fresh).obj r = backObj (backName loc (loc.map fun r => genOf (x.obj r)) base) (genOf (x.obj r)) (y'.obj i) := by rw [back_obj F, hf]
      have hkind := F.kind i r hi
      have hname : ∀ g, g = genOf (x.obj r) → locName loc (loc.map fun r => genOf (x.obj r)) r g = some (i, 0) := fun g hg => by
        unfold locName; rw [hf]; simp only [gens_at hi, hg, Nat.beq_refl, cond_true]
      have hback : backName loc (loc.map fun r => genOf (x.obj r)) base i 0 = some (r, genOf (x.obj r)) := by
        unfold backName; rw [hi]; simp only [gens_at hi, Nat.add_zero]
      have N1 := loc_names (x := x) (loc := loc) (bor := bor)
      have N2 := back_names F
      refine ⟨fun g p c k => ?_, fun g c k => ?_, fun g lo len ex c k => ?_, fun c k => ?_⟩
      · cases ho : x.obj r with
        | box v =>
          have k0 : PtrRel x r 0 p c := by unfold PtrRel at k ⊢; rw [ho] at k ⊢; exact k
          have k1 := N2.ptr _ _ _ _ _ _ hback ((G.keeps i).ptr _ _ _ (N1.ptr _ _ _ _ _ _ (hname 0 (by rw [ho]; rfl)) k0))
          rw [ho] at hkind
          unfold PtrRel at k1 ⊢
          rw [hob] at k1 ⊢
          cases hy : y'.obj i with
          | box u => rw [hy] at k1; exact k1
          | dead => trivial
          | _ => rw [hy] at hkind; cases hkind
        | arr g' t xs =>
          have hk := k
          unfold PtrRel at hk; rw [ho] at hk
          by_cases hg : g = g'
          · have := N2.ptr _ _ _ _ _ _ hback ((G.keeps i).ptr _ _ _ (N1.ptr _ _ _ _ _ _ (hname g (by rw [ho]; exact hg)) k))
            rw [ho] at this; rw [hg]; exact this
          · rw [ho] at hkind
            unfold PtrRel
            rw [hob]
            cases hy : y'.obj i with
            | arr g2 t2 xs2 => simp only [backObj, ho, genOf]; exact ⟨by omega, fun e => absurd e (by omega)⟩
            | dead => trivial
            | _ => rw [hy] at hkind; cases hkind
        | map K V m bs clk =>
          rw [ho] at hkind
          unfold PtrRel; rw [hob]
          cases hy : y'.obj i with
          | map K2 V2 m2 => trivial
          | dead => trivial
          | _ => rw [hy] at hkind; cases hkind
        | iter v s l =>
          rw [ho] at hkind
          unfold PtrRel; rw [hob]
          cases hy : y'.obj i with
          | dead => trivial
          | _ => rw [hy] at hkind; cases hkind
        | dead => have := F.live r (List.mem_of_getElem? hi); rw [ho] at this; cases this
        | free => have := F.live r (List.mem_of_getElem? hi); rw [ho] at this; cases this
      · cases ho : x.obj r with
        | arr g' t xs =>
          have hk := k
          unfold SlcRel at hk; rw [ho] at hk
          by_cases hg : g = g'
          · have := N2.slc _ _ _ _ _ hback ((G.keeps i).slc _ _ (N1.slc _ _ _ _ _ (hname g (by rw [ho]; exact hg)) k))
            rw [ho] at this; rw [hg]; exact this
          · rw [ho] at hkind
            unfold SlcRel
            rw [hob]
            cases hy : y'.obj i with
            | arr g2 t2 xs2 => simp only [backObj, ho, genOf]; exact ⟨by omega, fun e => absurd e (by omega)⟩
            | dead => trivial
            | _ => rw [hy] at hkind; cases hkind
        | dead => have := F.live r (List.mem_of_getElem? hi); rw [ho] at this; cases this
        | free => have := F.live r (List.mem_of_getElem? hi); rw [ho] at this; cases this
        | _ =>
          rw [ho] at hkind
          unfold SlcRel; rw [hob]
          cases hy : y'.obj i <;> rw [hy] at hkind <;> first | trivial | cases hkind
      · cases ho : x.obj r with
        | arr g' t xs =>
          have hk := k
          unfold SubRel at hk; rw [ho] at hk
          by_cases hg : g = g'
          · have := N2.sub _ _ _ _ _ _ _ _ hback ((G.keeps i).sub _ _ _ _ _ (N1.sub _ _ _ _ _ _ _ _ (hname g (by rw [ho]; exact hg)) k))
            rw [ho] at this; rw [hg]; exact this
          · rw [ho] at hkind
            unfold SubRel
            rw [hob]
            cases hy : y'.obj i with
            | arr g2 t2 xs2 => simp only [backObj, ho, genOf]; exact ⟨by omega, fun e => absurd e (by omega)⟩
            | dead => trivial
            | _ => rw [hy] at hkind; cases hkind
        | dead => have := F.live r (List.mem_of_getElem? hi); rw [ho] at this; cases this
        | free => have := F.live r (List.mem_of_getElem? hi); rw [ho] at this; cases this
        | _ =>
          rw [ho] at hkind
          unfold SubRel; rw [hob]
          cases hy : y'.obj i <;> rw [hy] at hkind <;> first | trivial | cases hkind
      · cases ho : x.obj r with
        | map K V m bs clk =>
          have := N2.map _ _ _ _ hback ((G.keeps i).map _ (N1.map _ _ _ _ (hname 0 (by rw [ho]; rfl)) k))
          exact this
        | dead => have := F.live r (List.mem_of_getElem? hi); rw [ho] at this; cases this
        | free => have := F.live r (List.mem_of_getElem? hi); rw [ho] at this; cases this
        | _ =>
          rw [ho] at hkind
          unfold MapRel; rw [hob]
          cases hy : y'.obj i <;> rw [hy] at hkind <;> first | trivial | cases hkind
    | none =>
      by_cases hb : base ≤ r ∧ r < base + fresh
      · refine .ofFree ?_
        have := F.free (r - base) (by omega)
        rw [show base + (r - base) = r by omega] at this
        exact obj_of_get this
      · have hob : (x.back y' loc bor base fresh).obj r = x.obj r := by rw [back_obj F, hf]; simp only; rw [if_neg hb]
        have hmu : (x.back y' loc bor base fresh).μ r = x.μ r := by rw [back_μ, hf]; simp only; rw [if_neg hb]
        refine .same hob hmu fun a n hl ha hroom => ?_
        have h3 := (others r a (findRef_none _ _ hf) hl ha).2.2
        unfold Am.Roomy at *
        show ∀ c e fr, y'.h a.block = _ → _
        rw [G.h]; simp only; rw [h3]
        rw [hh] at hroom; exact hroom
  have hown : ∀ b, Owned (x.back y' loc bor base fresh) b → Owned x b ∨ w.heap.size ≤ b := by
    intro b h
    rcases owned_back F h with h | ⟨r, a, _, l, m, e⟩
    · rcases G.own b h with h | h
      · obtain ⟨r, a, _, l, m, e⟩ := own0 b h; exact .inl ⟨r, a, l, m, e⟩
      · exact .inr h
    · exact .inl ⟨r, a, l, m, e⟩
  have hnew : ∀ p b, (x.back y' loc bor base fresh).S p b → x.S p b ∨ Owned (x.loc loc bor) b ∨ w.heap.size ≤ b := by
    intro p b hb
    have hb : (if p = true then y'.S true b else if bor = [] then y'.S false b else x.S false b ∨ y'.S true b) := hb
    have ht : y'.S true b → x.S true b ∨ Owned (x.loc loc bor) b ∨ w.heap.size ≤ b := fun h => by
      rcases G.newS true b h with h | h
      · rcases h with h | ⟨h, _⟩
        · exact .inl h
        · cases h
      · exact .inr h
    cases p with
    | true => exact ht hb
    | false =>
      rw [if_neg (by simp)] at hb
      split at hb
      · rename_i hbor
        rcases G.newS false b hb with h | h
        · rcases h with h | ⟨_, r, hr, _⟩
          · exact .inl h
          · rw [hbor] at hr; cases hr
        · exact .inr h
      · rcases hb with hb | hb
        · exact .inl hb
        · rcases ht hb with h | h
          · exact .inl (M.sub b h)
          · exact .inr h
  refine { mem := ⟨fun r => ?_, fun r1 r2 a1 a2 hne l1 l2 m1 m2 => ?_, fun p b hb => ?_, fun b hb => ?_⟩, h := G.h, S := hS, keeps := keeps, os := G.os, tape := G.tape, output := G.output, size := G.size,
           frame := fun b hb ho => G.frame b hb fun h => ho (let ⟨r, a, _, l, m, e⟩ := own0 b h; ⟨r, a, l, m, e⟩), own := hown,
           newS := fun p b hb => (hnew p b hb).imp id fun h => h.imp (fun h => let ⟨r, a, _, l, m, e⟩ := own0 b h; ⟨r, a, l, m, e⟩) id }
  · -- the objects
    have fromY : ∀ i g0, ((x.back y' loc bor base fresh).μ r = y'.μ i) → ObjRel (x.back y' loc bor base fresh) r (backObj (backName loc (loc.map fun r => genOf (x.obj r)) base) g0 (y'.obj i)) := by
      intro i g0 hmu
      have h := G.mem.objs i
      have hT : ∀ b, y'.S true b → (x.back y' loc bor base fresh).S true b ∧ (x.back y' loc bor base fresh).h b = y'.h b := fun b hb => ⟨hb, rfl⟩
      cases ho : y'.obj i with
      | box v =>
        rw [ho] at h
        obtain ⟨b, c, e, h1, h2, h3, h4⟩ := h
        have hk : bor = [] ∨ v.kept = true := F.kept.imp id fun hk => by have := hk i; rw [ho] at this; exact this
        exact ⟨b, c, e, hmu.trans h1, h2, back_C G F hk h3, (refs_flat _ v).trans h4⟩
      | arr g t xs =>
        rw [ho] at h
        rcases h with ⟨h1, h2⟩ | ⟨b, o, c, e, css, h1, h2, h3, h4⟩
        · exact .inl ⟨hmu.trans h1, h2⟩
        · exact .inr ⟨b, o, c, e, css, hmu.trans h1, h2, h3.mono fun _ _ h => h.congr hT, h4⟩
      | map K V m bs clk =>
        rw [ho] at h
        obtain ⟨b, es, h1, h2, h3, h4⟩ := h
        have hV : ∀ {t : Ty} {d : t.den} {u : Value}, (AVal.dat true t d).V y' u → (AVal.dat true t d).V (x.back y' loc bor base fresh) u := fun {t d u} h => V_of_C (x := y') (v := .dat true t d) (v' := .dat true t d) rfl (fun cs hc => Ty.Rel.congr (S := y'.S true) (S' := (x.back y' loc bor base fresh).S true) hT t d cs hc) h
        exact ⟨b, es, hmu.trans h1, h2, h3.mono fun _ _ h => ⟨hV h.1, hV h.2⟩, h4⟩
      | iter v s l =>
        rw [ho] at h
        obtain ⟨b, m, h1, h2, h3, h4⟩ := h
        have hk : bor = [] ∨ v.kept = true := F.kept.imp id fun hk => by have := hk i; rw [ho] at this; exact this
        exact ⟨b, m, hmu.trans h1, h2, back_C G F hk h3, (refs_flat _ v).trans h4⟩
      | dead => trivial
      | free => trivial
    rw [back_obj F]
    cases hf : findRef loc r with
    | some i => exact fromY i _ (by rw [back_μ, hf])
    | none =>
      simp only
      by_cases hb : base ≤ r ∧ r < base + fresh
      · rw [if_pos hb]; exact fromY _ _ (by rw [back_μ, hf]; simp only; rw [if_pos hb])
      · rw [if_neg hb]
        refine ObjRel.congr hS keeps (by rw [back_μ, hf]; simp only; rw [if_neg hb]) (fun a hl ha => ?_) (M.objs r)
        have h3 := (others r a (findRef_none _ _ hf) hl ha).2.2
        show y'.h a.block = x.h a.block
        rw [G.h, hh]; exact h3
  · -- they lie apart
    have side : ∀ r a, ((x.back y' loc bor base fresh).obj r).live = true → (x.back y' loc bor base fresh).μ r = some a →
        (∃ i, (y'.obj i).live = true ∧ y'.μ i = some a ∧ ∀ g, ∃ g', backName loc (loc.map fun r => genOf (x.obj r)) base i g = some (r, g')) ∨ (r ∉ loc ∧ (x.obj r).live = true ∧ x.μ r = some a) := by
      intro r a l m
      rw [back_obj F] at l
      rw [back_μ] at m
      cases hf : findRef loc r with
      | some i =>
        rw [hf] at l m
        simp only [backObj_live] at l
        have hi := findRef_get _ _ _ hf
        exact .inl ⟨i, l, m, fun g => by unfold backName; rw [hi]; exact ⟨_, rfl⟩⟩
      | none =>
        rw [hf] at l m
        simp only at l m
        by_cases hb : base ≤ r ∧ r < base + fresh
        · rw [if_pos hb] at l m
          rw [backObj_live] at l
          refine .inl ⟨_, l, m, fun g => ?_⟩
          unfold backName
          rw [List.getElem?_eq_none (by omega)]
          exact ⟨g, by simp only [Option.some.injEq, Prod.mk.injEq, and_true]; omega⟩
        · rw [if_neg hb] at l m
          exact .inr ⟨findRef_none _ _ hf, l, m⟩
    rcases side r1 a1 l1 m1 with ⟨i1, p1, q1, n1⟩ | ⟨k1, p1, q1⟩
    · rcases side r2 a2 l2 m2 with ⟨i2, p2, q2, n2⟩ | ⟨k2, p2, q2⟩
      · refine G.mem.apart i1 i2 a1 a2 (fun e => ?_) p1 p2 q1 q2
        subst e
        obtain ⟨g1, e1⟩ := n1 0
        obtain ⟨g2, e2⟩ := n2 0
        rw [e1] at e2; cases e2; exact hne rfl
      · exact fun e => (others r2 a2 k2 p2 q2).2.1 ⟨i1, a1, p1, q1, e⟩
    · rcases side r2 a2 l2 m2 with ⟨i2, p2, q2, n2⟩ | ⟨k2, p2, q2⟩
      · exact fun e => (others r1 a1 k1 p1 q1).2.1 ⟨i2, a2, p2, q2, e.symm⟩
      · exact M.apart r1 r2 a1 a2 hne p1 p2 q1 q2
  · -- what no one writes is no one's
    have hnotOwn : ¬ Owned (x.back y' loc bor base fresh) b ∧ (y'.h b).isSome = true := by
      have hb2 : (if p = true then y'.S true b else if bor = [] then y'.S false b else x.S false b ∨ y'.S true b) := hb
      have inY : ∀ q, y'.S q b → ¬ Owned y' b ∧ (y'.h b).isSome = true := fun q h => ⟨fun ⟨r, a, l, m, e⟩ => (G.mem.still q b h).2 r a l m e, (G.mem.still q b h).1⟩
      have outer : ¬ ∃ r a, r ∉ loc ∧ (x.obj r).live = true ∧ x.μ r = some a ∧ a.block = b := by
        rintro ⟨r, a, hr, hl, ha, e⟩
        rcases hnew p b hb with h | h | h
        · exact (M.still p b h).2 r a hl ha e
        · exact (others r a hr hl ha).1 (e ▸ h)
        · have := hlow _ (M.there hl ha); omega
      have fin : (∃ q, y'.S q b) ∨ x.S false b → ¬ Owned y' b ∧ (y'.h b).isSome = true := by
        rintro (⟨q, h⟩ | h)
        · exact inY q h
        · exact inY false (G.S false b (.inl h)).1
      have h := fin (by
        cases p with
        | true => exact .inl ⟨true, hb2⟩
        | false =>
          rw [if_neg (by simp)] at hb2
          split at hb2
          · exact .inl ⟨false, hb2⟩
          · rcases hb2 with hb2 | hb2
            · exact .inr hb2
            · exact .inl ⟨true, hb2⟩)
      exact ⟨fun ho => (owned_back F ho).elim h.1 outer, h.2⟩
    exact ⟨hnotOwn.2, fun r a l m e => hnotOwn.1 ⟨r, a, l, m, e⟩⟩
  · have hb : y'.S true b := hb
    show (if false = true then y'.S true b else if bor = [] then y'.S false b else x.S false b ∨ y'.S true b)
    rw [if_neg (by simp)]
    split
    · exact G.mem.sub b hb
    · exact .inr hb
end
end Go.Am
