/- The abstract machine, tenth part: literals, lengths, tuples. -/
import Derived.Test.YtiecnmmffplgcaaAmI
namespace Go.Am

theorem foldl_set (vs : List Value) : ∀ (k off : Nat) (c : Array Value) (pre mid post : List Value), c.toList = pre ++ mid ++ post → pre.length = off + k → mid.length = vs.length →
    ((vs.zipIdx k).foldl (fun cs (x : Value × Nat) => cs.setIfInBounds (off + x.2) x.1) c).toList = pre ++ vs ++ post := by
  induction vs with
  | nil => intro k off c pre mid post h _ hm; have : mid = [] := List.length_eq_zero_iff.1 hm; subst this; simpa using h
  | cons v vs ih =>
    intro k off c pre mid post h hp hm
    cases mid with
    | nil => cases hm
    | cons m mid =>
      rw [List.zipIdx_cons, List.foldl_cons]
      have := ih (k + 1) off (c.setIfInBounds (off + k) v) (pre ++ [v]) mid post (by
        rw [Array.toList_setIfInBounds, h, ← hp]; simp) (by simp; omega) (by simpa using hm)
      simpa using this

theorem fill_step {cells : Array Value} {v : Value} {off : Nat} {pre mid post : List Value} (h : cells.toList = pre ++ mid ++ post) (hp : pre.length = off) (hm : mid.length = v.cells.toList.length) :
    (v.cells.zipIdx.foldl (fun cs (x : Value × Nat) => cs.setIfInBounds (off + x.2) x.1) cells).toList = pre ++ v.cells.toList ++ post := by
  rw [← Array.foldl_toList, Array.toList_zipIdx]
  exact foldl_set v.cells.toList 0 off cells pre mid post h (by simpa using hp) hm

section
variable {P : Program} {T : Tbl} {ρ : Operand → Option AVal} {get : Nat → Option AObj} {a : Act} {w : World} {x : Ctx} {R : Type}

/-- The parts of a literal, as the machine has them and as the model has them. -/
def PartsRel (x : Ctx) (ps : List (Nat × AVal)) (qs : List (Nat × Value)) : Prop := All2 (fun p q => p.1 = q.1 ∧ p.2.V x q.2) ps qs

theorem fill_sound (place : Nat → Option (Nat × Nat)) (n : Nat) (setter : AVal → List (Nat × AVal) → (AVal → Option R) → Option R) (path : Nat → Path)
    (hstep : ∀ (acc : AVal) (j : Nat) (u : AVal) (rest : List (Nat × AVal)) (k : AVal → Option R) (z : R), setter acc ((j, u) :: rest) k = some z → ∃ off size s, place j = some (off, size) ∧ acc.sh.at (path j) = some (s, off) ∧ u.sh.size = size ∧ u.flat = true ∧
      acc.setK (path j) u (fun acc' => setter acc' rest k) = some z) (hnil : ∀ acc k, setter acc [] k = k acc) :
    ∀ (ps : List (Nat × AVal)) (qs : List (Nat × Value)) (acc : AVal) (cells : Array Value) (k : AVal → Option R) (z : R), PartsRel x ps qs → acc.C x cells.toList → setter acc ps k = some z →
      ∃ acc' cells', Instr.fill place cells qs = some cells' ∧ acc'.C x cells'.toList ∧ k acc' = some z := by
  intro ps
  induction ps with
  | nil => intro qs acc cells k z hr hc hk; rw [hr.nil_inv]; rw [hnil] at hk; exact ⟨acc, cells, rfl, hc, hk⟩
  | cons p ps ih =>
    intro qs acc cells k z hr hc hk
    obtain ⟨q, qs, rfl, ⟨hj, hv⟩, hr2⟩ := hr.cons_inv
    obtain ⟨j, u⟩ := p
    obtain ⟨j', v⟩ := q
    simp only at hj hv
    subst hj
    obtain ⟨off, size, s, h1, h2, h3, h4, h5⟩ := hstep acc j u ps k z hk
    obtain ⟨hC, _, _⟩ := V_inv h4 hv
    obtain ⟨acc', hset, hk'⟩ := setK_inv _ _ _ _ _ h5
    obtain ⟨_, o', hat, pre, mid, post, e, hp, hm, hC'⟩ := setK_sound _ acc u acc' _ hc hset _ hC
    rw [h2] at hat; cases hat
    have hl := AVal.C.length _ _ hC
    have hfs := fill_step e hp hm
    obtain ⟨acc'', cells'', g1, g2, g3⟩ := ih qs acc' _ k z hr2 (by rw [hfs]; exact hC') hk'
    refine ⟨acc'', cells'', ?_, g2, g3⟩
    have hsz : v.cells.size = u.sh.size := by rw [← hl]; simp
    have hlen : cells.size = pre.length + mid.length + post.length := by rw [← Array.length_toList, e]; simp; omega
    unfold Instr.fill
    simp only [h1]
    rw [if_neg (by
      simp only [ne_eq, Bool.or_eq_true, decide_eq_true_eq, not_or, Decidable.not_not, Nat.not_lt]
      refine ⟨by rw [hsz, h3], ?_⟩
      rw [hlen, hm, hp]; simp)]
    exact g1

theorem parts_eval {x : Ctx} {ρ : Operand → Option AVal} (hρ : ∀ o v, ρ o = some v → v.V x (a.eval o)) : ∀ (ps : List (Nat × Operand)) (qs : List (Nat × AVal)),
    ps.mapM (fun p => (ρ p.2).map fun v => (p.1, v)) = some qs → PartsRel x qs (ps.map fun p => (p.1, a.eval p.2)) := by
  intro ps
  induction ps with
  | nil => intro qs h; simp at h; subst h; exact .nil
  | cons p ps ih =>
    intro qs h
    rw [List.mapM_cons] at h
    simp only [bind, Option.bind_eq_some_iff, pure, Option.some.injEq] at h
    obtain ⟨q, hq, qs', h1, rfl⟩ := h
    cases hv : ρ p.2 with
    | none => rw [hv] at hq; cases hq
    | some v => rw [hv] at hq; cases hq; exact .cons ⟨rfl, hρ _ _ hv⟩ (ih _ h1)

theorem mapM_places (hT : TblOk P T) : ∀ (fs : List Field), (∀ f ∈ fs, ∃ d, T f.type = some d) → (fs.mapM fun f => (do pure (f.offset, ← sizeOf f.type) : Sem (Nat × Nat))).run P w = .ok (fs.map fun f => (f.offset, ((T f.type).map TD.size).getD 0)) w := by
  intro fs
  induction fs with
  | nil => intro _; simp
  | cons f fs ih =>
    intro h
    obtain ⟨d, hd⟩ := h f (by simp)
    simp only [List.mapM_cons, Sem.run_bind, (hT _ _ hd).sizeOf, Result.andThen_ok, Sem.run_pure, ih (fun g hg => h g (by simp [hg])), List.map_cons, hd, Option.map_some, Option.getD_some]

theorem actBuild_ok (H : Meets P T ρ get a w x) {o : Oper} {t : TypeId} {parts : Array (Nat × Operand)} (ho : o.op = .build t parts) {ps : List (Nat × AVal)} (hps : parts.toList.mapM (fun p => (ρ p.2).map fun v => (p.1, v)) = some ps)
    (hall : ∀ fs, undOf T t = .struct fs → fs.all (fun f => (T f.2).isSome) = true)
    {k : AVal → Ups → Option R} {z : R} (hk : actBuild T t ps (fun v => k v []) = some z) : ∃ u ups, k u ups = some z ∧ ActOk P o a w x u ups := by
  have hpr := parts_eval H.val _ _ hps
  unfold actBuild at hk
  split at hk
  case h_2 => cases hk
  rename_i d hd
  obtain ⟨hc, hk⟩ := cond_some hk
  rw [Bool.and_eq_true] at hc
  obtain ⟨hag, hfl⟩ := hc
  obtain ⟨zv, hz, hzv⟩ := (H.tbl t d hd).zeroValue (w := w)
  obtain ⟨hC, hA, _⟩ := V_inv hfl (hzv x)
  obtain ⟨c, rfl⟩ := hA hag
  have hC : d.zero.C x c.toList := hC
  have hund : undOf T t = d.und := by unfold undOf; rw [hd]
  split at hk
  · rename_i fs hfs
    obtain ⟨fields, hu, hfl2, _⟩ := (show UndOk P t (.struct fs) from hfs ▸ (H.tbl t d hd).und)
    have hallT : ∀ f ∈ fields.toList, ∃ d, T f.type = some d := by
      intro f hf
      have := List.all_eq_true.1 (hall fs (hund.trans hfs)) (f.offset, f.type) (by rw [← hfl2]; exact List.mem_map_of_mem hf)
      exact Option.isSome_iff_exists.1 this
    have hpl := mapM_places H.tbl (w := w) fields.toList hallT
    have hplA : (fields.mapM fun f => (do pure (f.offset, ← sizeOf f.type) : Sem (Nat × Nat))).run P w = .ok (fields.toList.map fun f => (f.offset, ((T f.type).map TD.size).getD 0)).toArray w := by
      rw [Array.mapM_eq_mapM_toList, Sem.run_map, hpl]; rfl
    obtain ⟨acc', cells', g1, g2, g3⟩ := fill_sound (x := x) (fun j => (fields.toList.map fun f => (f.offset, ((T f.type).map TD.size).getD 0)).toArray[j]?) fs.length (buildK T fs fs.length) (pairPath fs.length) (by
        intro acc j u rest k z hk
        unfold buildK at hk
        split at hk
        case h_2 => cases hk
        rename_i off ft hj
        split at hk
        case h_2 => cases hk
        rename_i fd hfd
        obtain ⟨hc, hk⟩ := cond_some hk
        rw [Bool.and_eq_true, Bool.and_eq_true] at hc
        obtain ⟨s, hs, _⟩ := leads_at hc.1.1
        obtain ⟨f, hf1, hf2, hf3⟩ := field_of hfl2 hj
        refine ⟨off, fd.size, s, ?_, hs, Nat.eq_of_beq_eq_true hc.1.2, hc.2, hk⟩
        simp [hf1, hf2, hf3, hfd]) (fun acc k => rfl) ps _ d.zero c _ z hpr hC hk
    obtain ⟨hc2, g3⟩ := cond_some g3
    rw [Bool.and_eq_true] at hc2
    refine ⟨_, _, g3, ActOk.value (u := .agg cells') H.mem H.h ?_ (by unfold AVal.V; rw [if_pos hc2.1]; exact ⟨_, rfl, g2⟩)⟩
    have hmap : (parts.map fun p => (p.1, a.eval p.2)).toList = parts.toList.map fun p => (p.1, a.eval p.2) := by simp
    simp only [execOp, ho, Instr.build, Sem.run_bind, hz, Result.andThen_ok, run_underlying hu, hplA]
    rw [hmap]
    simp only [Value.cells, g1, Sem.run_pure, Result.andThen_ok]
  · rename_i n e hfs
    split at hk
    case h_2 => cases hk
    rename_i ed hed
    split at hk
    case h_2 => cases hk
    rename_i es m hsh
    obtain ⟨hes, hk⟩ := cond_some hk
    have hes := Nat.eq_of_beq_eq_true hes
    have hu : P.underlying t = some (.array n e) := by have := (H.tbl t d hd).und; rw [hfs] at this; exact this
    have shAll : ∀ (acc : AVal) (p : Path) (u : AVal) (v' : AVal) (cs : List Value), acc.C x cs → acc.setK p u some = some v' → ∀ mid, u.C x mid → v'.sh = acc.sh := fun acc p u v' cs h1 h2 mid h3 => (setK_sound p acc u v' cs h1 h2 mid h3).1
    have key : ∀ (ps : List (Nat × AVal)) (qs : List (Nat × Value)) (acc : AVal) (cells : Array Value) (k : AVal → Option R) (z : R), PartsRel x ps qs → acc.C x cells.toList → acc.sh = .arr es m → buildArrK ed.size acc ps k = some z →
        ∃ acc' cells', Instr.fill (fun i => some (i * ed.size, ed.size)) cells qs = some cells' ∧ acc'.C x cells'.toList ∧ k acc' = some z := by
      intro ps
      induction ps with
      | nil => intro qs acc cells k z hr hc _ hk; rw [hr.nil_inv]; unfold buildArrK at hk; exact ⟨acc, cells, rfl, hc, hk⟩
      | cons p ps ih =>
        intro qs acc cells k z hr hc hacc hk
        obtain ⟨q, qs, rfl, ⟨hj, hv⟩, hr2⟩ := hr.cons_inv
        obtain ⟨j, u⟩ := p
        obtain ⟨j', v⟩ := q
        simp only at hj hv
        subst hj
        unfold buildArrK at hk
        obtain ⟨hc3, hk⟩ := cond_some hk
        rw [Bool.and_eq_true] at hc3
        have h3 := Nat.eq_of_beq_eq_true hc3.1
        obtain ⟨hC, _, _⟩ := V_inv hc3.2 hv
        obtain ⟨acc', hset, hk'⟩ := setK_inv _ _ _ _ _ hk
        obtain ⟨hsh', o', hat, pre, mid, post, e1, hp, hm, hC'⟩ := setK_sound _ acc u acc' _ hc hset _ hC
        rw [hacc] at hat
        simp only [Sh.at, Option.some.injEq, Prod.mk.injEq] at hat
        have hl := AVal.C.length _ _ hC
        have hfs2 := fill_step e1 hp hm
        obtain ⟨acc'', cells'', g1, g2, g3⟩ := ih qs acc' _ k z hr2 (by rw [hfs2]; exact hC') (hsh'.trans hacc) hk'
        refine ⟨acc'', cells'', ?_, g2, g3⟩
        have hsz : v.cells.size = u.sh.size := by rw [← hl]; simp
        have hlen : cells.size = pre.length + mid.length + post.length := by rw [← Array.length_toList, e1]; simp; omega
        have ho2 : o' = j * ed.size := by rw [← hat.2, hes]; omega
        unfold Instr.fill
        simp only
        rw [if_neg (by
          simp only [ne_eq, Bool.or_eq_true, decide_eq_true_eq, not_or, Decidable.not_not, Nat.not_lt]
          refine ⟨by rw [hsz, h3], ?_⟩
          rw [hlen, hm, hp, ho2]; simp)]
        rw [← ho2]
        exact g1
    obtain ⟨acc', cells', g1, g2, g3⟩ := key ps _ d.zero c _ z hpr hC hsh hk
    obtain ⟨hc2, g3⟩ := cond_some g3
    rw [Bool.and_eq_true] at hc2
    refine ⟨_, _, g3, ActOk.value (u := .agg cells') H.mem H.h ?_ (by unfold AVal.V; rw [if_pos hc2.1]; exact ⟨_, rfl, g2⟩)⟩
    have hmap : (parts.map fun p => (p.1, a.eval p.2)).toList = parts.toList.map fun p => (p.1, a.eval p.2) := by simp
    simp only [execOp, ho, Instr.build, Sem.run_bind, hz, Result.andThen_ok, run_underlying hu, (H.tbl _ _ hed).sizeOf]
    rw [hmap]
    simp only [Value.cells, g1, Sem.run_pure, Result.andThen_ok]
  · cases hk

theorem nth_sound {vs : AVal} {us : List Value} (h : vs.C x us) : ∀ {j : Nat} {k : AVal → Option R} {z : R}, actExtract.nth k vs j = some z → ∃ v u, us[j]? = some u ∧ v.V x u ∧ k v = some z := by
  induction vs generalizing us with
  | cons a b iha ihb =>
    intro j k z hk
    obtain ⟨u, us', rfl, h1, h2⟩ := h
    cases j with
    | zero => exact ⟨a, u, rfl, h1, hk⟩
    | succ j =>
      obtain ⟨v, u', h3, h4, h5⟩ := ihb h2 (j := j) hk
      exact ⟨v, u', by simpa using h3, h4, h5⟩
  | _ => intro j k z hk; cases hk

theorem actExtract_ok (H : Meets P T ρ get a w x) {o : Oper} {j : Nat} {vo : Operand} (ho : o.op = .extract vo j) {v : AVal} (hv : v.V x (a.eval vo)) {k : AVal → Ups → Option R} {z : R}
    (hk : actExtract v j (fun v => k v []) = some z) : ∃ u ups, k u ups = some z ∧ ActOk P o a w x u ups := by
  unfold actExtract at hk
  split at hk
  · rename_i vs
    obtain ⟨us, e, hC⟩ := (show (AVal.tup vs).C x [a.eval vo] from hv)
    simp only [List.cons.injEq, and_true] at e
    obtain ⟨v, u, h1, h2, h3⟩ := nth_sound hC hk
    refine ⟨_, _, h3, ActOk.value (u := u) H.mem H.h ?_ h2⟩
    simp [execOp, ho, Instr.extract, e, h1]
  · cases hk
end
end Go.Am
