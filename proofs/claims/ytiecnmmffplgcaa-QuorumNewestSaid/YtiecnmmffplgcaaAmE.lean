/- The abstract machine, fifth part: its operations on values, and that each does what the model's does. -/
import Derived.Test.YtiecnmmffplgcaaAmD
namespace Go.Am

abbrev Ups := List (Nat × AObj)

def applyUps (σ : List AObj) : Ups → List AObj
  | [] => σ
  | (r, o) :: u => applyUps (σ.set r o) u

/-- What one operation is good for: wherever the code goes on from its value, the model does. -/
def ActOk (P : Program) (o : Oper) (a : Act) (w : World) (x : Ctx) (v : AVal) (ups : Ups) : Prop :=
  ∀ (next : Act → World → Prop) (Q : Exit → Act → World → Prop),
    (∀ u w' x', Goes x w x' w' → x'.σ = applyUps x.σ ups → v.V x' u → next (a.put o.dst u) w') → o.wp P a w next Q

/-- The state that an operation meets. -/
structure Meets (P : Program) (T : Tbl) (ρ : Operand → Option AVal) (get : Nat → Option AObj) (a : Act) (w : World) (x : Ctx) : Prop where
  tbl : TblOk P T
  mem : Mem x
  h : x.h = fun b => w.heap[b]?
  val : ∀ o v, ρ o = some v → v.V x (a.eval o)
  obj : ∀ r ob, get r = some ob → x.σ[r]? = some ob

theorem ActOk.value {P : Program} {o : Oper} {a : Act} {w : World} {x : Ctx} {v : AVal} {u : Value} (M : Mem x) (hh : x.h = fun b => w.heap[b]?)
    (hr : (execOp a.eval o).run P w = .ok (.value u) w) (hv : v.V x u) : ActOk P o a w x v [] := by
  intro next Q h
  unfold Oper.wp
  rw [hr, Oper.upon_value]
  exact h u w x (.refl M hh) rfl hv

section defs
variable {R : Type} (T : Tbl)

def TD.isAs (d : TD) (u : AVal) : Bool := Nat.beq d.size u.sh.size && (d.und.agg == u.agg)

/-- The object behind a reference, as one value. -/
def rootK (get : Nat → Option AObj) (r g : Nat) (k : AVal → Option R) : Option R :=
  match get r with
  | some (.box b) => k b
  | some (.arr g' τ xs) => bif Nat.beq g g' then k (.dat true (.arr xs.length τ) xs) else none
  | _ => none

def actLoad (get : Nat → Option AObj) (t : TypeId) (v : AVal) (k : AVal → Ups → Option R) : Option R :=
  match T t with
  | some d => match v with
    | .ptr r g p => rootK get r g fun b => b.getK p fun u => bif d.isAs u then k u [] else none
    | .ref q τ y => bif d.isAs (.dat q τ y) then k (.dat q τ y) [] else none
    | _ => none
  | none => none

/-- A way that begins at an element. -/
def idxPath : Path → Bool
  | .idx _ :: _ => true
  | _ => false

def actStore (get : Nat → Option AObj) (t : TypeId) (v u : AVal) (k : AVal → Ups → Option R) : Option R :=
  match T t with
  | some d => match v with
    | .ptr r g p => bif d.isAs u && u.flat then
        (match get r with
          | some (.box b) => b.setK p u fun b' => bif b'.flat then k (.tup .nil) [(r, .box b')] else none
          | some (.arr g' τ xs) => bif Nat.beq g g' && idxPath p then (AVal.dat true (.arr xs.length τ) xs).setK p u fun
            | .dat true (.arr _ τ') ys => if h : τ' = τ then k (.tup .nil) [(r, .arr g' τ (h ▸ ys))] else none
            | _ => none else none
          | _ => none) else none
    | _ => none
  | none => none

def actAlloc (get : Nat → Option AObj) (base : Nat) (v : AVal) (k : AVal → Ups → Option R) : Option R :=
  match get base with
  | some .free => bif v.flat then k (.ptr base 0 []) [(base, .box v)] else none
  | _ => none

def pairPath : Nat → Nat → Path
  | 1, _ => [.one]
  | _ + 2, 0 => [.fst]
  | 2, _ + 1 => [.snd]
  | n + 3, j + 1 => .snd :: pairPath (n + 2) j
  | 0, _ => []

def shapeOf : AObj → Nat → Option Sh
  | .box v, _ => some v.sh
  | .arr g' τ _, g => bif Nat.beq g g' then some (.arr τ.sh 0) else none
  | _, _ => none

/-- Does a path lead so many cells on? -/
def Sh.leads (s : Sh) (p : Path) (off size : Nat) : Bool :=
  match s.at p with
  | some (s', o) => Nat.beq o off && Nat.beq s'.size size
  | none => false

def actFieldAddr (get : Nat → Option AObj) (t : TypeId) (v : AVal) (j : Nat) (k : AVal → Ups → Option R) : Option R :=
  match T t with
  | some { und := .struct fs, .. } => match fs[j]? with
    | some (off, ft) => match T ft with
      | some fd => bif Nat.beq fd.size 0 then none else match v with
        | .ptr r g p => match get r with
          | some ob => match shapeOf ob g with
            | some s => match s.at p with
              | some (s', _) => bif s'.leads (pairPath fs.length j) off fd.size then k (.ptr r g (p ++ pairPath fs.length j)) [] else none
              | none => none
            | none => none
          | none => none
        | .ref own τ y => bif τ.sh.leads (pairPath fs.length j) off fd.size then
            (AVal.dat own τ y).getK (pairPath fs.length j) fun
              | .dat own' τ' y' => bif own' == own then k (.ref own τ' y') [] else none
              | _ => none else none
        | _ => none
      | none => none
    | none => none
  | _ => none
end defs

theorem applyUps_one {σ : List AObj} {r : Nat} {o : AObj} : applyUps σ [(r, o)] = σ.set r o := rfl

theorem obj_of_get {x : Ctx} {r : Nat} {ob : AObj} (h : x.σ[r]? = some ob) : x.obj r = ob := by
  unfold Ctx.obj; rw [List.getD_eq_getElem?_getD, h]; rfl

theorem obj_set {σ : List AObj} {r r' : Nat} {ob o : AObj} (h : σ[r]? = some ob) : (σ.set r o).getD r' .free = if r' = r then o else σ.getD r' .free := by
  have hl : r < σ.length := (List.getElem?_eq_some_iff.1 h).1
  rw [List.getD_eq_getElem?_getD, List.getD_eq_getElem?_getD, List.getElem?_set]
  by_cases e : r = r'
  · subst e; simp [hl]
  · rw [if_neg e, if_neg (fun e' => e e'.symm)]

theorem at_arr {s : Sh} (n m : Nat) {p : Path} {z : Sh} {o : Nat} (h : (Sh.arr s n).at p = some (z, o)) : ∃ z', (Sh.arr s m).at p = some (z', o) := by
  cases p with
  | nil => simp only [Sh.at, Option.some.injEq, Prod.mk.injEq] at h ⊢; exact ⟨_, rfl, h.2⟩
  | cons st p => cases st <;> simp only [Sh.at] at h ⊢ <;> first | cases h | exact ⟨z, h⟩

/-- What lies behind a reference. -/
theorem ptr_at {x : Ctx} {r g : Nat} {p : Path} {u : Value} (M : Mem x) {ob : AObj} (ho : x.obj r = ob) {get : Nat → Option AObj} (hg : get r = some ob) {R : Type} {k : AVal → Option R} {z : R}
    (hk : rootK get r g k = some z) (hv : (AVal.ptr r g p).V x u) :
    ∃ b, k b = some z ∧ b.flat = true ∧ ∃ blk off0 c e, x.μ r = some ⟨blk, off0, none⟩ ∧ x.h blk = some (.cells c e (0, 0)) ∧
      (∃ pre cs post, c.toList = pre ++ cs ++ post ∧ pre.length = off0 ∧ b.C x cs) ∧ ∃ s o, b.sh.at p = some (s, o) ∧ u = .pointer (some ⟨blk, off0 + o, none⟩) := by
  have hrel := M.objs r
  rw [ho] at hrel
  unfold rootK at hk
  rw [hg] at hk
  obtain ⟨c0, hc0, _, hp⟩ := (show (AVal.ptr r g p).C x [u] from hv)
  simp only [List.cons.injEq, and_true] at hc0
  subst hc0
  unfold PtrRel at hp
  rw [ho] at hp
  cases ob with
  | box b =>
    obtain ⟨blk, c, e, h1, h2, h3, hf⟩ := hrel
    obtain ⟨a, s, o, ha, hat, hu⟩ := hp
    rw [h1] at ha; cases ha
    exact ⟨b, hk, hf, blk, 0, c, e, h1, h2, ⟨[], c.toList, [], by simp, rfl, h3⟩, s, o, hat, hu⟩
  | arr g' τ xs =>
    simp only at hk
    cases hgg : Nat.beq g g' with
    | false => rw [hgg] at hk; cases hk
    | true =>
      rw [hgg] at hk
      obtain ⟨a, s, o, ha, hat, hu⟩ := hp.2 (Nat.eq_of_beq_eq_true hgg)
      rcases hrel with ⟨h1, _⟩ | ⟨blk, off0, c, e, css, h1, h2, h3, pre, post, h4, h5⟩
      · rw [h1] at ha; cases ha
      · rw [h1] at ha; cases ha
        obtain ⟨s', hat'⟩ := at_arr 0 xs.length hat
        exact ⟨_, hk, rfl, blk, off0, c, e, h1, h2, ⟨pre, css.flatten, post, h4, h5, rfl, css, rfl, h3⟩, s', o, hat', hu⟩
  | map K V m bs clk => simp at hk
  | iter v s l => simp at hk
  | dead => simp at hk
  | free => simp at hk

theorem isAs_size {d : TD} {u : AVal} (h : d.isAs u = true) : d.size = u.sh.size ∧ d.und.agg = u.agg := by
  unfold TD.isAs at h
  rw [Bool.and_eq_true] at h
  exact ⟨Nat.eq_of_beq_eq_true h.1, by simpa using h.2⟩

theorem cond_some {R : Type} {c : Bool} {y : Option R} {z : R} (h : (bif c then y else none) = some z) : c = true ∧ y = some z := by
  cases c with
  | false => cases h
  | true => exact ⟨rfl, h⟩

section
variable {P : Program} {T : Tbl} {ρ : Operand → Option AVal} {get : Nat → Option AObj} {a : Act} {w : World} {x : Ctx} {R : Type}

theorem agg_one {x : Ctx} {u : AVal} {cs : List Value} (h : u.C x cs) (ha : u.agg = false) (hf : u.flat = true) : cs.length = 1 := by
  rw [AVal.C.length _ _ h]
  cases u with
  | dat p t d => cases t <;> first | rfl | cases ha
  | pair a b => cases ha
  | one a => cases ha
  | tup vs => cases hf
  | nil => cases hf
  | cons a b => cases hf
  | _ => rfl

theorem flat_getK : ∀ (p : Path) (v v' : AVal), v.flat = true → v.getK p some = some v' → v'.flat = true := by
  intro p
  induction p with
  | nil => intro v v' hf e; unfold AVal.getK at e; cases e; exact hf
  | cons st p ih =>
    intro v v' hf e
    unfold AVal.getK at e
    split at e <;> try cases e
    all_goals (rename_i hst; try cases hst)
    all_goals first
      | exact ih _ _ rfl e
      | (split at e
         · exact ih _ _ rfl e
         · cases e)
      | (simp only [AVal.flat, Bool.and_eq_true] at hf; exact ih _ _ hf.1 e)
      | (simp only [AVal.flat, Bool.and_eq_true] at hf; exact ih _ _ hf.2 e)
      | (simp only [AVal.flat] at hf; exact ih _ _ hf e)

theorem heap_at (H : Meets P T ρ get a w x) {b : Nat} {o : Obj} (h : x.h b = some o) : w.heap[b]? = some o := by
  have := H.h ▸ h; exact this

theorem actLoad_ok (H : Meets P T ρ get a w x) {o : Oper} {t : TypeId} {ad : Operand} (ho : o.op = .load t ad) {v : AVal} (hv : v.V x (a.eval ad)) {k : AVal → Ups → Option R} {z : R}
    (hk : actLoad T get t v k = some z) : ∃ u ups, k u ups = some z ∧ ActOk P o a w x u ups := by
  unfold actLoad at hk
  split at hk
  case h_2 => cases hk
  rename_i d hd
  split at hk
  · rename_i r g p
    cases hg : get r with
    | none => unfold rootK at hk; rw [hg] at hk; cases hk
    | some ob =>
      obtain ⟨b, hb, hbf, blk, off0, c, e, h1, h2, ⟨pre, cs, post, h3, h4, h5⟩, s, of, hat, hu⟩ := ptr_at H.mem (obj_of_get (H.obj r ob hg)) hg hk hv
      obtain ⟨u, hget, hk2⟩ := getK_inv p b _ z hb
      obtain ⟨hd2, hk3⟩ := cond_some hk2
      obtain ⟨hsz, hag⟩ := isAs_size hd2
      obtain ⟨of', hat', pre', mid, post', rfl, hp', hm⟩ := getK_sound p b u cs h5 hget
      rw [hat] at hat'; cases hat'
      have hfl : u.flat = true := flat_getK p b u hbf hget
      refine ⟨u, [], hk3, ActOk.value (u := valueOf u.agg mid) H.mem H.h ?_ (V_valueOf hm fun ha => agg_one hm ha hfl)⟩
      have hl := run_loadVar_at H.tbl hd (heap_at H h2) (o := off0 + of) (mid := mid) (fun j v hv => by
        have := all2_drop_get (c := c) (pre := pre ++ pre') (mid := mid) (post := post' ++ post) (by rw [h3]; simp) j hv
        simpa [h4, hp'] using this) (by rw [hsz, AVal.C.length _ _ hm]) (fun hf => agg_one hm (hag ▸ hf) hfl)
      simp only [execOp, ho, Instr.loadAt, Instr.sureAddr, hu, Sem.run_bind, Sem.run_pure, Result.andThen_ok, hl, hag]
  · rename_i own τ y
    obtain ⟨hd2, hk3⟩ := cond_some hk
    obtain ⟨hsz, hag⟩ := isAs_size hd2
    obtain ⟨b, of, ds, hu, h1, ⟨c, e, fr, h2, h3⟩, h4⟩ := (show (AVal.ref own τ y).C x [a.eval ad] from hv)
    simp only [List.cons.injEq, and_true] at hu
    have hm : (AVal.dat own τ y).C x ds := h4
    refine ⟨_, [], hk3, ActOk.value (u := valueOf (AVal.dat own τ y).agg ds) H.mem H.h ?_ (V_valueOf hm fun ha => agg_one hm ha rfl)⟩
    have hl := run_loadVar_at H.tbl hd (heap_at H h2) (o := of) (mid := ds) h3 (by rw [hsz, AVal.C.length _ _ hm]) (fun hf => agg_one hm (hag ▸ hf) rfl)
    simp only [execOp, ho, Instr.loadAt, Instr.sureAddr, hu, Sem.run_bind, Sem.run_pure, Result.andThen_ok, hl, hag]
  · cases hk

/-- What is written at a path does not hang on what is done with it. -/
theorem setK_inv {R : Type} : ∀ (p : Path) (v u : AVal) (k : AVal → Option R) (r : R), v.setK p u k = some r → ∃ v', v.setK p u some = some v' ∧ k v' = some r := by
  suffices G : ∀ (p : Path) (R : Type) (v u : AVal) (k : AVal → Option R) (r : R), v.setK p u k = some r → ∃ v', k v' = some r ∧ ∀ (R' : Type) (k' : AVal → Option R'), v.setK p u k' = k' v' by
    intro p v u k r e
    obtain ⟨v', h1, h2⟩ := G p R v u k r e
    exact ⟨v', h2 AVal some, h1⟩
  intro p
  induction p with
  | nil =>
    intro R v u k r e
    unfold AVal.setK at e
    split at e
    · rename_i h; exact ⟨u, e, fun R' k' => by unfold AVal.setK; rw [if_pos h]⟩
    · cases e
  | cons st p ih =>
    intro R v u k r e
    unfold AVal.setK at e
    split at e <;> try cases e
    all_goals (rename_i hst; try cases hst)
    all_goals first
      | (obtain ⟨y, hy, G⟩ := ih _ _ _ _ _ e
         exact ⟨_, hy, fun R' k' => by simp only [AVal.setK]; exact G _ _⟩)
      | (split at e
         · rename_i z hz
           obtain ⟨y, hy, G⟩ := ih _ _ _ _ _ e
           split at hy
           · rename_i q' t' y'
             cases hqq : (q' == _ || _ : Bool) with
             | false => rw [hqq] at hy; cases hy
             | true =>
             rw [hqq] at hy
             simp only [cond_true] at hy
             split at hy
             · rename_i ht
               exact ⟨_, hy, fun R' k' => by simp only [AVal.setK, hz]; rw [G]; simp only [hqq, cond_true, ht, dite_true]⟩
             · cases hy
           · cases hy
         · cases e)
end
end Go.Am
