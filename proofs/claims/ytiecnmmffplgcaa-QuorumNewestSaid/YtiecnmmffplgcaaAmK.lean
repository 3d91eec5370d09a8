/- The abstract machine, eleventh part: lengths, checks for nil, slices of the call's own. -/
import Derived.Test.YtiecnmmffplgcaaAmJ
namespace Go.Am
section
variable {P : Program} {T : Tbl} {ρ : Operand → Option AVal} {get : Nat → Option AObj} {a : Act} {w : World} {x : Ctx} {R : Type}

theorem run_len {o : Oper} {vo : Operand} {ats : Array TypeId} (ho : o.op = .call { callee := .builtin .len, args := #[vo], argTypes := ats }) :
    (execOp a.eval o).run P w = ((Builtin.len_ ats o.type #[a.eval vo]).run P w).andThen fun v w' => .ok (.value v) w' := by
  simp only [execOp, ho, resolve, invoke, builtin, Sem.run_bind, Sem.run_pure, Result.andThen_ok, List.map_toArray, List.map_cons, List.map_nil]

theorem actLen_ok (H : Meets P T ρ get a w x) {o : Oper} {t : TypeId} {vo : Operand} {ats : Array TypeId} (ho : o.op = .call { callee := .builtin .len, args := #[vo], argTypes := ats }) (hat : ats[0]? = some t)
    {v : AVal} (hv : v.V x (a.eval vo)) {k : AVal → Ups → Option R} {z : R} (hk : actLen T get t v (fun v => k v []) = some z) : ∃ u ups, k u ups = some z ∧ ActOk P o a w x u ups := by
  have go : ∀ (n : Int), ((Builtin.len_ ats o.type #[a.eval vo]).run P w) = .ok (.int .i64 n) w → k (.dat true (.int .i64) n) [] = some z → ∃ u ups, k u ups = some z ∧ ActOk P o a w x u ups := fun n hr hk =>
    ⟨_, _, hk, ActOk.value H.mem H.h (by rw [run_len ho, hr]; rfl) (V_int.2 rfl)⟩
  have run1 : ∀ (d : TypeDesc) (v : Value) (r : Result Value), P.underlying t = some d → a.eval vo = v → (∀ (hd : (underlying t).run P w = .ok d w), (Builtin.len_ ats o.type #[v]).run P w = r) → (Builtin.len_ ats o.type #[a.eval vo]).run P w = r := by
    intro d v r hd hv hr
    rw [hv]; exact hr (run_underlying hd w)
  unfold actLen at hk
  split at hk
  · split at hk
    · rename_i s hu
      have hb := undOf_ok H.tbl hu (by simp)
      exact go _ (run1 _ _ _ hb (V_str.1 hv) fun hd => by simp [Builtin.len_, hat, hd, goInt]) hk
    · cases hk
  · rename_i own τ xs
    split at hk
    · rename_i hu
      have hb := undOf_ok H.tbl hu (by simp)
      obtain ⟨cs, ⟨base, len, cap, rfl, hl, _⟩, e1⟩ := V_dat hv
      have e1 : a.eval vo = .slice base len cap := e1
      exact go _ (run1 _ _ _ hb e1 fun hd => by simp [Builtin.len_, hat, hd, goInt, hl]) hk
    · cases hk
  · rename_i r g
    split at hk
    case h_2 => cases hk
    rename_i hu
    have hb := undOf_ok H.tbl hu (by simp)
    split at hk
    case h_2 => cases hk
    rename_i g' τ xs hg
    obtain ⟨hgg, hk⟩ := cond_some hk
    have hobj := obj_of_get (H.obj r _ hg)
    obtain ⟨c0, hc0, _, hr⟩ := (show (AVal.slc r g).C x [a.eval vo] from hv)
    simp only [List.cons.injEq, and_true] at hc0
    unfold SlcRel at hr
    rw [hobj] at hr
    have hr2 := hr.2 (Nat.eq_of_beq_eq_true hgg)
    have hrel := H.mem.objs r
    rw [hobj] at hrel
    rcases hrel with ⟨h1, h3⟩ | ⟨b, of, c, e', css, h1, _⟩
    · simp only [h1] at hr2
      subst h3
      obtain ⟨b0, hr3⟩ := hr2; subst hc0; exact go _ (run1 _ _ _ hb hr3 fun hd => by simp [Builtin.len_, hat, hd, goInt]) hk
    · simp only [h1] at hr2
      obtain ⟨cap, e1, _⟩ := hr2
      subst hc0; exact go _ (run1 _ _ _ hb e1 fun hd => by simp [Builtin.len_, hat, hd, goInt]) hk
  · rename_i r g lo len ex
    split at hk
    case h_2 => cases hk
    rename_i hu
    have hb := undOf_ok H.tbl hu (by simp)
    split at hk
    case h_2 => cases hk
    rename_i g' τ xs hg
    obtain ⟨hgg, hk⟩ := cond_some hk
    have hobj := obj_of_get (H.obj r _ hg)
    obtain ⟨c0, hc0, _, hr⟩ := (show (AVal.sub r g lo len ex).C x [a.eval vo] from hv)
    simp only [List.cons.injEq, and_true] at hc0
    unfold SubRel at hr
    rw [hobj] at hr
    obtain ⟨_, base, cap, e1, _⟩ := hr.2 (Nat.eq_of_beq_eq_true hgg)
    subst hc0; exact go _ (run1 _ _ _ hb e1 fun hd => by simp [Builtin.len_, hat, hd, goInt]) hk
  · split at hk
    case h_2 => cases hk
    rename_i hu
    have hb := undOf_ok H.tbl hu (by simp)
    obtain ⟨b0, e1⟩ : ∃ b, a.eval vo = .slice b 0 0 := by simpa [AVal.V, AVal.agg, AVal.C] using hv
    exact go _ (run1 _ _ _ hb e1 fun hd => by simp [Builtin.len_, hat, hd, goInt]) hk
  · rename_i r
    split at hk
    case h_2 => cases hk
    rename_i hu
    have hb := undOf_ok H.tbl hu (by simp)
    split at hk
    case h_2 => cases hk
    rename_i K V m bs clk hg
    have hobj := obj_of_get (H.obj r _ hg)
    obtain ⟨c0, hc0, _, hr⟩ := (show (AVal.map r).C x [a.eval vo] from hv)
    simp only [List.cons.injEq, and_true] at hc0
    unfold MapRel at hr
    rw [hobj] at hr
    obtain ⟨a0, h1, e1⟩ := hr
    have hrel := H.mem.objs r
    rw [hobj] at hrel
    obtain ⟨b, es, h2, h3, h4, _⟩ := hrel
    rw [h2] at h1; cases h1
    have hwb := heap_at H h3
    subst hc0; refine go _ (run1 _ _ _ hb e1 fun hd => by simp [Builtin.len_, hat, hd, goInt, getObj, Sem.run, hwb, h4.1]) hk
  · split at hk
    case h_2 => cases hk
    rename_i hu
    have hb := undOf_ok H.tbl hu (by simp)
    have e1 : a.eval vo = .map none := by simpa [AVal.V, AVal.agg, AVal.C] using hv
    exact go _ (run1 _ _ _ hb e1 fun hd => by simp [Builtin.len_, hat, hd, goInt]) hk
  · split at hk
    case h_2 => cases hk
    rename_i n e hu
    have hb := undOf_ok H.tbl hu (by simp)
    exact go _ (run1 _ _ _ hb rfl fun hd => by simp [Builtin.len_, hat, hd, goInt]) hk

theorem actNilCheck_ok (H : Meets P T ρ get a w x) {o : Oper} {vo : Operand} (ho : o.op = .nilCheck vo) {v : AVal} (hv : v.V x (a.eval vo)) {k : AVal → Ups → Option R} {z : R}
    (hk : actNilCheck get v (k v []) = some z) : ∃ u ups, k u ups = some z ∧ ActOk P o a w x u ups := by
  unfold actNilCheck at hk
  split at hk
  · obtain ⟨hk, ad, e⟩ := there_some H.obj hv hk
    exact ⟨_, _, hk, ActOk.value H.mem H.h (u := a.eval vo) (by simp [execOp, ho, e]) hv⟩
  · obtain ⟨b, of, ds, e, _⟩ := (show (AVal.ref _ _ _).C x [a.eval vo] from hv)
    simp only [List.cons.injEq, and_true] at e
    exact ⟨_, _, hk, ActOk.value H.mem H.h (u := a.eval vo) (by simp [execOp, ho, e]) hv⟩
  · obtain ⟨vs, e, _⟩ := (show (AVal.fn _ _).C x [a.eval vo] from hv)
    simp only [List.cons.injEq, and_true] at e
    obtain ⟨fa, fb, e'⟩ := fnVal_is _ _ vs
    have e := e.trans e'
    exact ⟨_, _, hk, ActOk.value H.mem H.h (u := a.eval vo) (by simp [execOp, ho, e]) hv⟩
  · cases hk

def actMin (u v : AVal) (k : AVal → Option R) : Option R :=
  match u, v with
  | .dat _ (.int kx) a, .dat _ (.int ky) b => if kx = ky then k (.dat true (.int kx) (if b < a then b else a)) else none
  | _, _ => none

theorem actMin_ok (H : Meets P T ρ get a w x) {o : Oper} {xo yo : Operand} {ats : Array TypeId} (ho : o.op = .call { callee := .builtin .min, args := #[xo, yo], argTypes := ats })
    {u v : AVal} (hu : u.V x (a.eval xo)) (hv : v.V x (a.eval yo)) {k : AVal → Ups → Option R} {z : R} (hk : actMin u v (fun v => k v []) = some z) : ∃ u ups, k u ups = some z ∧ ActOk P o a w x u ups := by
  unfold actMin at hk
  split at hk
  · split at hk
    · refine ⟨_, [], hk, ActOk.value H.mem H.h ?_ (V_int.2 rfl)⟩
      simp only [execOp, ho, resolve, invoke, builtin, Sem.run_bind, Sem.run_pure, Result.andThen_ok, List.map_toArray, List.map_cons, List.map_nil, V_int.1 hu, V_int.1 hv]
      rfl
    · cases hk
  · cases hk

def actMax (u v : AVal) (k : AVal → Option R) : Option R :=
  match u, v with
  | .dat _ (.int kx) a, .dat _ (.int ky) b => if kx = ky then k (.dat true (.int kx) (if a < b then b else a)) else none
  | _, _ => none

theorem actMax_ok (H : Meets P T ρ get a w x) {o : Oper} {xo yo : Operand} {ats : Array TypeId} (ho : o.op = .call { callee := .builtin .max, args := #[xo, yo], argTypes := ats })
    {u v : AVal} (hu : u.V x (a.eval xo)) (hv : v.V x (a.eval yo)) {k : AVal → Ups → Option R} {z : R} (hk : actMax u v (fun v => k v []) = some z) : ∃ u ups, k u ups = some z ∧ ActOk P o a w x u ups := by
  unfold actMax at hk
  split at hk
  · split at hk
    · refine ⟨_, [], hk, ActOk.value H.mem H.h ?_ (V_int.2 rfl)⟩
      simp only [execOp, ho, resolve, invoke, builtin, Sem.run_bind, Sem.run_pure, Result.andThen_ok, List.map_toArray, List.map_cons, List.map_nil, V_int.1 hu, V_int.1 hv]
      rfl
    · cases hk
  · cases hk

/-- A slice's bound. -/
def boundK (o : Option AVal) (d y : Nat) (k : Nat → Option R) : Option R :=
  match o with
  | none => k d
  | some (.dat _ (.int _) i) => if 0 ≤ i ∧ i ≤ y then k i.toNat else none
  | some _ => none

def actSliceStr (T : Tbl) (t : TypeId) (v : AVal) (l h : Option AVal) (k : AVal → Option R) : Option R :=
  match v with
  | .dat _ .str s => match undOf T t with
    | .str => boundK h s.size s.size fun hh => boundK l 0 hh fun ll => k (.dat true .str (s.extract ll hh))
    | _ => none
  | _ => none

/-- What an operand that may be missing stands for. -/
def optV (x : Ctx) (a : Act) : Option Operand → Option AVal → Prop
  | none, none => True
  | some o, some v => v.V x (a.eval o)
  | _, _ => False

theorem boundK_ok {o : Option Operand} {v : Option AVal} (hv : optV x a o v) {d y : Nat} {k : Nat → Option R} {z : R} (hk : boundK v d y k = some z) :
    ∃ n, k n = some z ∧ ∀ (code : BoundsCode), ((match o.map a.eval with
      | some u => Instr.sliceBound u y code
      | none => pure d : Sem Nat)).run P w = .ok n w := by
  unfold boundK at hk
  split at hk
  · cases o with
    | none => exact ⟨d, hk, fun _ => rfl⟩
    | some o => cases hv
  · rename_i p kd i
    cases o with
    | none => cases hv
    | some o =>
      split at hk
      · rename_i hi
        refine ⟨i.toNat, hk, fun code => ?_⟩
        have hu := V_int.1 hv
        simp only [Option.map_some, Instr.sliceBound, hu, asIntOf, Sem.run_bind, Sem.run_pure, Result.andThen_ok, if_pos hi]
      · cases hk
  · cases hk

theorem actSliceStr_ok (H : Meets P T ρ get a w x) {o : Oper} {t : TypeId} {xo : Operand} {lo hi : Option Operand} (ho : o.op = .slice t xo lo hi none)
    {v : AVal} {l h : Option AVal} (hv : v.V x (a.eval xo)) (hl : optV x a lo l) (hh : optV x a hi h) {k : AVal → Ups → Option R} {z : R} (hk : actSliceStr T t v l h (fun v => k v []) = some z) : ∃ u ups, k u ups = some z ∧ ActOk P o a w x u ups := by
  unfold actSliceStr at hk
  split at hk
  case h_2 => cases hk
  split at hk
  case h_2 => cases hk
  rename_i s hu
  have hb := undOf_ok H.tbl hu (by simp)
  obtain ⟨hn, hk1, hrun1⟩ := boundK_ok (P := P) (w := w) hh hk
  obtain ⟨ln, hk2, hrun2⟩ := boundK_ok (P := P) (w := w) hl hk1
  have hs := V_str.1 hv
  refine ⟨_, [], hk2, ActOk.value H.mem H.h ?_ (V_str.2 rfl)⟩
  have e1 := hrun1 .sliceAlen
  have e2 := hrun2 .sliceB
  have hb' : (underlying t).run P w = .ok .string w := run_underlying (show P.underlying t = _ from hb) w
  cases hi <;> cases lo <;> simp only [Option.map_none, Option.map_some] at e1 e2 <;>
    simp [execOp, ho, hs, Instr.sliceAt, Instr.slice, Instr.sliceBounds, hb', e1, e2, Sem.run_bind]
  all_goals simp_all
  rw [← e1, ← e2]; simp
end
end Go.Am
