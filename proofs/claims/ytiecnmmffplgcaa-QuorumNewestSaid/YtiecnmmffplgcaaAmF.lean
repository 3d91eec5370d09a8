/- The abstract machine, sixth part: stores, new objects, addresses. -/
import Derived.Test.YtiecnmmffplgcaaAmE
namespace Go.Am
section
variable {P : Program} {T : Tbl} {ρ : Operand → Option AVal} {get : Nat → Option AObj} {a : Act} {w : World} {x : Ctx} {R : Type}

theorem setRow_size (w : World) (b : Nat) (c : Array Value) : (w.setRow b c).heap.size = w.heap.size := by simp [World.setRow]

/-- The state behind a write into the block of object r. -/
def Ctx.wrote (x : Ctx) (blk : Nat) (o : Obj) (r : Nat) (ob : AObj) : Ctx :=
  { h := fun b => if b = blk then some o else x.h b, S := x.S, μ := x.μ, σ := x.σ.set r ob }

theorem wrote_obj {blk : Nat} {o : Obj} {r r' : Nat} {ob ob0 : AObj} (h : x.σ[r]? = some ob0) : (x.wrote blk o r ob).obj r' = if r' = r then ob else x.obj r' := obj_set h

theorem upd0_wrote {blk : Nat} {c' : Array Value} {e : TypeId} {r : Nat} {ob0 ob : AObj} {of : Nat} (h0 : x.σ[r]? = some ob0) (hl : ob0.live = true) (hμ : x.μ r = some ⟨blk, of, none⟩)
    (keep : Keeps x (x.wrote blk (.cells c' e (0, 0)) r ob) r) : Upd0 x (x.wrote blk (.cells c' e (0, 0)) r ob) r where
  S := rfl
  obj := fun r' hr => by rw [wrote_obj h0, if_neg hr]
  μ := fun r' hr => rfl
  h := fun b hs hne => if_neg fun e => hne _ (by rw [obj_of_get h0]; exact hl) hμ e.symm
  keep := keep
  blk := fun a' hl' ha' => .inl ⟨a', by rw [obj_of_get h0]; exact hl, ha', rfl⟩

theorem actStore_ok (H : Meets P T ρ get a w x) {o : Oper} {t : TypeId} {ad vo : Operand} (ho : o.op = .store t ad vo) {v u : AVal} (hv : v.V x (a.eval ad)) (hu : u.V x (a.eval vo)) {k : AVal → Ups → Option R} {z : R}
    (hk : actStore T get t v u k = some z) : ∃ u ups, k u ups = some z ∧ ActOk P o a w x u ups := by
  unfold actStore at hk
  split at hk
  case h_2 => cases hk
  rename_i d hd
  split at hk
  case h_2 => cases hk
  rename_i r g p
  obtain ⟨hd2, hk⟩ := cond_some hk
  rw [Bool.and_eq_true] at hd2
  obtain ⟨hsz, hag⟩ := isAs_size hd2.1
  obtain ⟨hC, _, _⟩ := V_inv hd2.2 hu
  have hlen := AVal.C.length _ _ hC
  cases hg : get r with
  | none => rw [hg] at hk; cases hk
  | some ob =>
    have h0 := H.obj r ob hg
    have hobj := obj_of_get h0
    rw [hg] at hk
    -- what all ways have in common
    have common : ∀ (b b' : AVal) (ob' : AObj) (blk off0 : Nat) (c : Array Value) (e : TypeId) (pre cs post : List Value) (s : Sh) (of : Nat), ob.live = true → x.μ r = some ⟨blk, off0, none⟩ → x.h blk = some (.cells c e (0, 0)) →
        c.toList = pre ++ cs ++ post → pre.length = off0 → b.C x cs → b.sh.at p = some (s, of) → a.eval ad = .pointer (some ⟨blk, off0 + of, none⟩) → b.setK p u some = some b' →
        (∀ c' : Array Value, c'.size = c.size → Keeps x (x.wrote blk (.cells c' e (0, 0)) r ob') r) →
        (∀ cs' : List Value, b'.C x cs' → b'.sh = b.sh → (∀ v ∈ [u], v.flat = true) → ∀ x' : Ctx, x' = x.wrote blk (.cells (pre ++ cs' ++ post).toArray e (0, 0)) r ob' → b'.C x' cs' → (∀ p b, x.S p b → x'.S p b ∧ x'.h b = x.h b) → (∀ r, Keeps x x' r) → ObjRel x' r ob') →
        ActOk P o a w x (.tup .nil) [(r, ob')] := by
      intro b b' ob' blk off0 c e pre cs post s of hl h1 h2 h3 h4 h5 hat hu' hset hkeep hrel next Q hnext
      obtain ⟨hsh, of', hat', pre', mid, post', rfl, hp', hml, hC'⟩ := setK_sound p b u b' cs h5 hset _ hC
      rw [hat] at hat'; cases hat'
      let c' : Array Value := (pre ++ (pre' ++ (a.eval vo).cells.toList ++ post') ++ post).toArray
      have hst := run_storeVar_at H.tbl hd (heap_at H h2) (pre := pre ++ pre') (mid := mid) (post := post' ++ post) (by rw [h3]; simp) (u := a.eval vo)
        (by rw [hsz, hlen]) (by rw [hml]) (AVal.C.oneCell _ _ hC hd2.2)
      have hc' : (pre ++ pre' ++ (a.eval vo).cells.toList ++ (post' ++ post)).toArray = c' := by simp [c']
      rw [hc'] at hst
      have ha : (⟨blk, (pre ++ pre').length, none⟩ : Addr) = ⟨blk, off0 + of, none⟩ := by simp [h4, hp']
      rw [ha] at hst
      have hcs : c'.size = c.size := by
        have e1 : c.size = pre.length + (pre'.length + (mid.length + post'.length)) + post.length := by
          rw [← Array.length_toList, h3]; simp; omega
        rw [e1, hml]; simp [c']; omega
      have U0 := upd0_wrote (x := x) (ob := ob') h0 hl h1 (hkeep c' hcs)
      have U : Upd x (x.wrote blk (.cells c' e (0, 0)) r ob') r :=
        ⟨U0, by
          rw [wrote_obj h0, if_pos rfl]
          exact hrel _ hC' hsh (by simp [hd2.2]) _ rfl (hC'.mono (U0.hS H.mem) (U0.keeps H.mem)) (U0.hS H.mem) (U0.keeps H.mem)⟩
      have G : Goes x w (x.wrote blk (.cells c' e (0, 0)) r ob') (w.setRow blk c') := U.goes H.mem H.h (by
        funext b
        have := setRow_heap_eq (heap_at H h2) c' b
        rw [this]
        show (if b = blk then _ else x.h b) = _
        rw [H.h]) rfl rfl rfl (by rw [setRow_size]; exact Nat.le_refl _)
      unfold Oper.wp
      have hrun : (execOp a.eval o).run P w = .ok .skip (w.setRow blk c') := by
        simp only [execOp, ho, Instr.storeAt, Instr.sureAddr, hu', Sem.run_bind, Sem.run_pure, Result.andThen_ok, hst]
      rw [hrun, Oper.upon_skip]
      exact hnext undef _ _ G rfl (show (AVal.tup .nil).C _ [.tuple #[]] from ⟨[], rfl, rfl⟩)
    cases ob with
    | box b =>
      simp only at hk
      obtain ⟨b', hset, hk2⟩ := setK_inv _ _ _ _ _ hk
      obtain ⟨hf', hk3⟩ := cond_some hk2
      obtain ⟨b0, hb0, hbf, blk, off0, c, e, h1, h2, ⟨pre, cs, post, h3, h4, h5⟩, s, of, hat, hu'⟩ := ptr_at (k := some) (z := b) H.mem hobj hg (by unfold rootK; rw [hg]) hv
      cases hb0
      obtain ⟨hsh0, _⟩ := setK_sound p b u b' cs h5 hset _ hC
      refine ⟨_, _, hk3, common b b' (.box b') blk off0 c e pre cs post s of rfl h1 h2 h3 h4 h5 hat hu' hset (fun c' hcs => ?_) ?_⟩
      · refine ⟨fun g p c hp => ?_, fun g c hp => ?_, fun g lo len ex c hp => ?_, fun c hp => ?_⟩
        · unfold PtrRel at hp ⊢; rw [wrote_obj h0, if_pos rfl]; rw [hobj] at hp; simp only [hsh0]; exact hp
        · unfold SlcRel; rw [wrote_obj h0, if_pos rfl]; trivial
        · unfold SubRel; rw [wrote_obj h0, if_pos rfl]; trivial
        · unfold MapRel; rw [wrote_obj h0, if_pos rfl]; trivial
      · rintro cs' hc hsh _ x' rfl hC' _ _
        have hrel := H.mem.objs r
        rw [hobj] at hrel
        obtain ⟨blk2, c2, e2, k1, k2, k3, k4⟩ := hrel
        rw [h1] at k1; cases k1
        rw [h2] at k2; cases k2
        have hl1 := AVal.C.length _ _ k3
        have hl2 := AVal.C.length _ _ h5
        have hz : pre.length = 0 ∧ post.length = 0 := by
          rw [h3] at hl1; simp at hl1; omega
        have hp0 : pre = [] := List.length_eq_zero_iff.1 hz.1
        have hq0 : post = [] := List.length_eq_zero_iff.1 hz.2
        subst hp0; subst hq0
        exact ⟨blk, _, e, h1, if_pos rfl, by simpa using hC', hf'⟩
    | arr g' τ xs =>
      simp only at hk
      obtain ⟨hgg, hk⟩ := cond_some hk
      rw [Bool.and_eq_true] at hgg
      have hgg := hgg.1
      obtain ⟨b', hset, hk2⟩ := setK_inv _ _ _ _ _ hk
      split at hk2
      case h_2 => cases hk2
      rename_i n' τ' ys
      split at hk2
      case isFalse => cases hk2
      rename_i hτ
      subst hτ
      obtain ⟨b0, hb0, hbf, blk, off0, c, e, h1, h2, ⟨pre, cs, post, h3, h4, h5⟩, s, of, hat, hu'⟩ := ptr_at (k := some) (z := .dat true (.arr xs.length τ') xs) H.mem hobj hg (by unfold rootK; rw [hg]; simp [hgg]) hv
      cases hb0
      obtain ⟨hsh0, _, _, _, _, _, _, _, _, hyC⟩ := setK_sound p _ u _ cs h5 hset _ hC
      have hn : n' = xs.length := by simp only [AVal.sh, Ty.sh, Sh.arr.injEq] at hsh0; exact hsh0.2
      have hyl : ys.length = xs.length := hyC.1.trans hn
      refine ⟨_, _, hk2, common _ _ (.arr g' τ' ys) blk off0 c e pre cs post s of rfl h1 h2 h3 h4 h5 hat hu' hset (fun c' hcs => ?_) ?_⟩
      · refine ⟨fun g p c hp => ?_, fun g c1 hp => ?_, fun g lo len ex c hp => ?_, fun c hp => ?_⟩
        · unfold PtrRel at hp ⊢; rw [wrote_obj h0, if_pos rfl]; rw [hobj] at hp; exact hp
        · unfold SlcRel at hp ⊢
          rw [wrote_obj h0, if_pos rfl]; rw [hobj] at hp
          refine ⟨hp.1, fun hgg' => ?_⟩
          have hp := hp.2 hgg'
          simp only [Ctx.wrote, h1] at hp ⊢
          obtain ⟨cap, e1, e2, e3⟩ := hp
          refine ⟨cap, by rw [hyl]; exact e1, by rw [hyl]; exact e2, ?_⟩
          intro c2 e2' fr2 h
          have h := (show (if blk = blk then some (Obj.cells c' e (0, 0)) else x.h blk) = _ from h)
          rw [if_pos rfl] at h; cases h
          have := e3 c e (0, 0) h2
          rw [hcs]; exact this
        · unfold SubRel at hp ⊢; rw [wrote_obj h0, if_pos rfl]; rw [hobj] at hp; simp only [hyl]; exact hp
        · unfold MapRel; rw [wrote_obj h0, if_pos rfl]; trivial
      · rintro cs' hc hsh _ x' rfl hC' _ _
        obtain ⟨hy1, css, rfl, A⟩ := hC'
        exact .inr ⟨blk, off0, _, e, css, h1, if_pos rfl, A, pre, post, by simp, h4⟩
    | map K V m bs clk => simp at hk
    | iter v s l => simp at hk
    | dead => simp at hk
    | free => simp at hk

/-- The state behind a new block, in which object r lies now. -/
def Ctx.made (x : Ctx) (blk : Nat) (o : Obj) (r : Nat) (ob : AObj) : Ctx :=
  { h := fun b => if b = blk then some o else x.h b, S := x.S, μ := fun r' => if r' = r then some ⟨blk, 0, none⟩ else x.μ r', σ := x.σ.set r ob }

theorem heap_alloc (w : World) (o : Obj) : (fun b => (w.alloc o).heap[b]?) = fun b => if b = w.heap.size then some o else w.heap[b]? := by
  funext b
  show (w.heap.push o)[b]? = _
  rw [Array.getElem?_push]

theorem goes_made (M : Mem x) (hh : x.h = fun b => w.heap[b]?) {r : Nat} {ob : AObj} (h0 : x.σ[r]? = some .free) (o : Obj)
    (hrel : (∀ p b, x.S p b → (x.made w.heap.size o r ob).S p b ∧ (x.made w.heap.size o r ob).h b = x.h b) → (∀ r', Keeps x (x.made w.heap.size o r ob) r') → ObjRel (x.made w.heap.size o r ob) r ob) :
    Goes x w (x.made w.heap.size o r ob) (w.alloc o) := by
  have hnew : (x.h w.heap.size).isSome = false := by rw [hh]; simp
  have hob : ∀ r', (x.made w.heap.size o r ob).obj r' = if r' = r then ob else x.obj r' := fun r' => obj_set h0
  have hfree : x.obj r = .free := obj_of_get h0
  have U0 : Upd0 x (x.made w.heap.size o r ob) r := {
    S := rfl
    obj := fun r' hr => by rw [hob, if_neg hr]
    μ := fun r' hr => if_neg hr
    h := fun b hs _ => if_neg fun e => by rw [e, hnew] at hs; cases hs
    keep := .ofFree hfree
    blk := fun a' _ ha' => .inr (by
      have h := (show (if r = r then some (⟨w.heap.size, 0, none⟩ : Addr) else x.μ r) = some a' from ha')
      rw [if_pos rfl] at h; cases h; exact hnew) }
  have U : Upd x (x.made w.heap.size o r ob) r := ⟨U0, by rw [hob, if_pos rfl]; exact hrel (U0.hS M) (U0.keeps M)⟩
  refine U.goes M hh ?_ rfl rfl rfl (by show _ ≤ (w.heap.push _).size; simp)
  rw [heap_alloc]
  funext b
  show (if b = _ then _ else x.h b) = _
  rw [hh]

theorem run_newVar (P : Program) (w : World) (t : TypeId) (v : Value) : (newVar t v).run P w = .ok ⟨w.heap.size, 0, none⟩ (w.alloc (.cells v.cells t (0, 0))) := rfl

theorem made_obj {r r' : Nat} {ob ob0 : AObj} {blk : Nat} {o : Obj} (h0 : x.σ[r]? = some ob0) : (x.made blk o r ob).obj r' = if r' = r then ob else x.obj r' := obj_set h0

/-- A new variable that holds v. -/
theorem box_ok (H : Meets P T ρ get a w x) {o : Oper} {base : Nat} {v : AVal} {u : Value} {t : TypeId} (hg : get base = some .free) (hf : v.flat = true) (hv : v.V x u)
    (hrun : (execOp a.eval o).run P w = .ok (.value (.pointer (some ⟨w.heap.size, 0, none⟩))) (w.alloc (.cells u.cells t (0, 0)))) : ActOk P o a w x (.ptr base 0 []) [(base, .box v)] := by
  intro next Q hnext
  have h0 := H.obj base _ hg
  obtain ⟨hC, _, _⟩ := V_inv hf hv
  have G := goes_made (ob := .box v) H.mem H.h h0 (.cells u.cells t (0, 0)) (fun hs hk => ⟨w.heap.size, u.cells, t, if_pos rfl, if_pos rfl, hC.mono hs hk, hf⟩)
  unfold Oper.wp
  rw [hrun, Oper.upon_value]
  refine hnext _ _ _ G rfl (show (AVal.ptr base 0 []).C _ _ from ⟨_, rfl, rfl, ?_⟩)
  unfold PtrRel
  rw [made_obj h0, if_pos rfl]
  exact ⟨_, v.sh, 0, if_pos rfl, by unfold Sh.at; rfl, rfl⟩

theorem actAlloc_box (H : Meets P T ρ get a w x) {o : Oper} {base : Nat} {t : TypeId} {vo : Operand} (ho : o.op = .box t vo) {v : AVal} (hv : v.V x (a.eval vo)) {k : AVal → Ups → Option R} {z : R}
    (hk : actAlloc get base v k = some z) : ∃ u ups, k u ups = some z ∧ ActOk P o a w x u ups := by
  unfold actAlloc at hk
  split at hk
  · rename_i hg
    obtain ⟨hf, hk⟩ := cond_some hk
    refine ⟨_, _, hk, box_ok H (t := t) hg hf hv ?_⟩
    simp only [execOp, ho, Instr.box, Sem.run_bind, run_newVar, Result.andThen_ok, Sem.run_pure]
  · cases hk

theorem actAlloc_zero (H : Meets P T ρ get a w x) {o : Oper} {base : Nat} {t : TypeId} (ho : o.op = .alloc t) {d : TD} (hd : T t = some d) {k : AVal → Ups → Option R} {z : R}
    (hk : actAlloc get base d.zero k = some z) : ∃ u ups, k u ups = some z ∧ ActOk P o a w x u ups := by
  unfold actAlloc at hk
  split at hk
  · rename_i hg
    obtain ⟨hf, hk⟩ := cond_some hk
    obtain ⟨u, hz, hv⟩ := (H.tbl t d hd).zeroValue (w := w)
    refine ⟨_, _, hk, box_ok H (t := t) hg hf (hv x) ?_⟩
    simp only [execOp, ho, Instr.alloc, Sem.run_bind, hz, run_newVar, Result.andThen_ok, Sem.run_pure]
  · cases hk

theorem leads_at {s : Sh} {p : Path} {off size : Nat} (h : s.leads p off size = true) : ∃ s', s.at p = some (s', off) ∧ s'.size = size := by
  unfold Sh.leads at h
  split at h
  · rename_i s' o' he
    rw [Bool.and_eq_true] at h
    obtain rfl := Nat.eq_of_beq_eq_true h.1
    exact ⟨s', he, Nat.eq_of_beq_eq_true h.2⟩
  · cases h

theorem at_append : ∀ (p q : Path) (s s' s'' : Sh) (o o' : Nat), s.at p = some (s', o) → s'.at q = some (s'', o') → s.at (p ++ q) = some (s'', o + o') := by
  intro p
  induction p with
  | nil => intro q s s' s'' o o' h h'; simp only [Sh.at, Option.some.injEq, Prod.mk.injEq] at h; obtain ⟨rfl, rfl⟩ := h; simpa using h'
  | cons st p ih =>
    intro q s s' s'' o o' h h'
    rw [List.cons_append]
    unfold Sh.at at h ⊢
    split at h <;> try cases h
    all_goals (rename_i hst; try cases hst)
    · exact ih q _ _ _ _ _ h h'
    · split at h
      · rename_i he; cases h; simp only [ih q _ _ _ _ _ he h', Nat.add_assoc]
      · cases h
    · exact ih q _ _ _ _ _ h h'
    · split at h
      · rename_i he; cases h; simp only [ih q _ _ _ _ _ he h', Nat.add_assoc]
      · cases h

/-- A pointer to a part of what a pointer points to. -/
theorem ptr_part {r g : Nat} {p q : Path} {u : Value} {ob : AObj} (hobj : x.obj r = ob) (hv : (AVal.ptr r g p).V x u) {s s' s'' : Sh} {o' off : Nat} (hs : shapeOf ob g = some s) (hp : s.at p = some (s', o')) (hq : s'.at q = some (s'', off)) :
    ∃ b o, u = .pointer (some ⟨b, o, none⟩) ∧ (AVal.ptr r g (p ++ q)).V x (.pointer (some ⟨b, o + off, none⟩)) := by
  obtain ⟨c0, hc0, _, hr⟩ := (show (AVal.ptr r g p).C x [u] from hv)
  simp only [List.cons.injEq, and_true] at hc0
  subst hc0
  unfold PtrRel at hr
  rw [hobj] at hr
  cases ob with
  | box v =>
    simp only [shapeOf, Option.some.injEq] at hs
    subst hs
    obtain ⟨a, s1, o1, h1, h2, h3⟩ := hr
    rw [hp] at h2; cases h2
    refine ⟨a.block, a.off + o', h3, show (AVal.ptr r g (p ++ q)).C x _ from ⟨_, rfl, rfl, ?_⟩⟩
    unfold PtrRel; rw [hobj]
    exact ⟨a, s'', o' + off, h1, at_append p q _ _ _ _ _ hp hq, by simp [ptrTo, Nat.add_assoc]⟩
  | arr g' τ xs =>
    simp only [shapeOf] at hs
    obtain ⟨hgg, hs⟩ := cond_some hs
    cases hs
    obtain ⟨a, s1, o1, h1, h2, h3⟩ := hr.2 (Nat.eq_of_beq_eq_true hgg)
    rw [hp] at h2; cases h2
    refine ⟨a.block, a.off + o', h3, show (AVal.ptr r g (p ++ q)).C x _ from ⟨_, rfl, rfl, ?_⟩⟩
    unfold PtrRel; rw [hobj]
    exact ⟨hr.1, fun _ => ⟨a, s'', o' + off, h1, at_append p q _ _ _ _ _ hp hq, by simp [ptrTo, Nat.add_assoc]⟩⟩
  | map K V m bs clk => cases hs
  | iter v s l => cases hs
  | dead => cases hs
  | free => cases hs

theorem field_of {fs : List (Nat × TypeId)} {fields : Array Field} (h : fields.toList.map (fun f => (f.offset, f.type)) = fs) {j off : Nat} {ft : TypeId} (hj : fs[j]? = some (off, ft)) :
    ∃ f, fields[j]? = some f ∧ f.offset = off ∧ f.type = ft := by
  subst h
  rw [List.getElem?_map] at hj
  cases hf : fields.toList[j]? with
  | none => rw [hf] at hj; cases hj
  | some f => rw [hf] at hj; cases hj; exact ⟨f, by simpa using hf, rfl, rfl⟩

theorem actFieldAddr_ok (H : Meets P T ρ get a w x) {o : Oper} {t : TypeId} {j : Nat} {ad : Operand} (ho : o.op = .fieldAddr t ad j) {v : AVal} (hv : v.V x (a.eval ad)) {k : AVal → Ups → Option R} {z : R}
    (hk : actFieldAddr T get t v j k = some z) : ∃ u ups, k u ups = some z ∧ ActOk P o a w x u ups := by
  unfold actFieldAddr at hk
  split at hk
  case h_2 => cases hk
  rename_i fs size bytes zero cmp hd
  split at hk
  case h_2 => cases hk
  rename_i off ft hj
  split at hk
  case h_2 => cases hk
  rename_i fd hfd
  cases hz : Nat.beq fd.size 0 with
  | true => rw [hz] at hk; cases hk
  | false =>
    rw [hz] at hk
    simp only [cond_false] at hk
    obtain ⟨fields, hund, hfl, _⟩ := (show UndOk P t (.struct fs) from (H.tbl t _ hd).und)
    obtain ⟨f, hf1, hf2, hf3⟩ := field_of hfl hj
    have hsz : (sizeOf f.type).run P w = .ok fd.size w := by rw [hf3]; exact (H.tbl ft fd hfd).sizeOf
    have hz' : fd.size ≠ 0 := fun e => by rw [e] at hz; cases hz
    have hrun : ∀ b of, a.eval ad = .pointer (some ⟨b, of, none⟩) → (execOp a.eval o).run P w = .ok (.value (.pointer (some ⟨b, of + off, none⟩))) w := by
      intro b of hu
      simp only [execOp, ho, Instr.fieldAt, Sem.run_bind, run_underlying hund, Result.andThen_ok, hf1, Instr.sureAddr, hu, Sem.run_pure, fieldPlace, hsz]
      rw [if_neg hz']
      simp [hf2, add_mk]
    split at hk
    · rename_i r g p
      split at hk
      case h_2 => cases hk
      rename_i ob hg
      split at hk
      case h_2 => cases hk
      rename_i s hs
      split at hk
      case h_2 => cases hk
      rename_i s' o' hp
      obtain ⟨hl, hk⟩ := cond_some hk
      obtain ⟨s'', hq, _⟩ := leads_at hl
      obtain ⟨b, of, hu, hv'⟩ := ptr_part (obj_of_get (H.obj r ob hg)) hv hs hp hq
      exact ⟨_, _, hk, ActOk.value H.mem H.h (hrun b of hu) hv'⟩
    · rename_i own τ y
      obtain ⟨hl, hk⟩ := cond_some hk
      obtain ⟨s'', hq, _⟩ := leads_at hl
      obtain ⟨u, hget, hk2⟩ := getK_inv _ _ _ _ hk
      split at hk2
      case h_2 => cases hk2
      rename_i own' τ' y'
      obtain ⟨ho', hk2⟩ := cond_some hk2
      obtain rfl : own' = own := by simpa using ho'
      obtain ⟨b, of, ds, hu, h1, ⟨c, e, fr, h2, h3⟩, h4⟩ := (show (AVal.ref own' τ y).C x [a.eval ad] from hv)
      simp only [List.cons.injEq, and_true] at hu
      obtain ⟨of', hat, pre, mid, post, rfl, hp, hm⟩ := getK_sound _ (.dat own' τ y) _ ds h4 hget
      have : of' = off := by have h := hat.symm.trans hq; cases h; rfl
      subst this
      refine ⟨_, _, hk2, ActOk.value H.mem H.h (hrun b of hu) (show (AVal.ref own' τ' y').C x _ from ⟨b, of + of', mid, rfl, h1, ⟨c, e, fr, h2, fun j v hv => ?_⟩, hm⟩)⟩
      have := h3 (of' + j) v (by
        rw [List.append_assoc, List.getElem?_append_right (by omega), show of' + j - pre.length = j by omega, List.getElem?_append_left (List.getElem?_eq_some_iff.1 hv).1]; exact hv)
      rw [← this]; congr 1; omega
    · cases hk
end
end Go.Am
