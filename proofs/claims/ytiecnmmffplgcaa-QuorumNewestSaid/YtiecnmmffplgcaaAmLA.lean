/- The abstract machine: appends do what the machine says. -/
import Derived.Test.YtiecnmmffplgcaaAmL
import Derived.Deep.AppendSrc
import Derived.Deep.Upon
namespace Go.Am

section
variable {P : Program} {T : Tbl} {ρ : Operand → Option AVal} {get : Nat → Option AObj} {a : Act} {w : World} {x : Ctx} {R : Type}

theorem all2_one {h : Heap} {S : Nat → Prop} {t : Ty} {xs : List t.den} {css : List (List Value)} (A : All2 (t.Rel h S) xs css) : ∀ v ∈ css.flatten, v.oneCell' = true := by
  intro v hv
  obtain ⟨c, hc, hv⟩ := List.mem_flatten.1 hv
  obtain ⟨i, hi, rfl⟩ := List.getElem_of_mem hc
  exact Ty.Rel.oneCell t (xs[i]'(by rw [A.1]; exact hi)) _ (A.2 i _ _ (List.getElem?_eq_getElem _) (List.getElem?_eq_getElem _)) v hv

theorem src_empty {size : Nat} {tx e' : TypeId} (hk : P.underlying tx = some (.slice e')) (base : Option Addr) (c : Nat) : Src P size tx (.slice base 0 c) 0 [] w := by
  cases base with
  | none => exact Src.ofNil w hk c
  | some b => exact Src.ofSlice w hk b 0 c [] (by simp) (fun j u h => by simp at h) (fun u h => by cases h)

theorem src_cells {size : Nat} {tx e' : TypeId} (hk : P.underlying tx = some (.slice e')) {b o n cap : Nat} {c : Array Value} {e : TypeId} {fr : Nat × Nat} (hb : w.heap[b]? = some (.cells c e fr)) {news : List Value}
    (hn : ∀ (j : Nat) v, news[j]? = some v → c[o + j]? = some v) (hl : news.length = n * size) (h1 : ∀ u ∈ news, u.oneCell' = true) : Src P size tx (.slice (some ⟨b, o, none⟩) n cap) n news w :=
  Src.ofSlice w hk ⟨b, o, none⟩ n cap news hl (fun j u hj => by rw [add_mk, cell_of_heap hb]; exact hn j u hj) h1

/-- What an append appends, in memory. -/
theorem srcK_ok (H : Meets P T ρ get a w x) {vo : Operand} {v : AVal} (hv : v.V x (a.eval vo)) {tx e' : TypeId} (hk : P.underlying tx = some (.slice e')) {τ : Ty} {k : List τ.den → Option R} {z : R} (h : srcK get v τ k = some z) :
    ∃ ys css, k ys = some z ∧ All2 (τ.Rel x.h (x.S true)) ys css ∧ Src P τ.size tx (a.eval vo) ys.length css.flatten w := by
  unfold srcK at h
  split at h
  · rename_i r g
    split at h
    case h_2 => cases h
    rename_i g' τ' xs hg
    obtain ⟨hgg, h⟩ := cond_some h
    split at h
    case isFalse => cases h
    rename_i ht; subst ht
    obtain ⟨c0, hc0, _, hs⟩ := (show (AVal.slc r g).C x [a.eval vo] from hv)
    simp only [List.cons.injEq, and_true] at hc0
    have hobj := obj_of_get (H.obj r _ hg)
    unfold SlcRel at hs
    rw [hobj] at hs
    have hs := hs.2 (Nat.eq_of_beq_eq_true hgg)
    have hrel := H.mem.objs r
    rw [hobj] at hrel
    rcases hrel with ⟨h1, h2⟩ | ⟨b, o, c, e, css, h1, h2, h3, pre, post, h4, h5⟩
    · subst h2
      simp only [h1] at hs
      obtain ⟨b, hb⟩ := hs
      refine ⟨[], [], h, All2.nil, ?_⟩
      rw [hc0, hb]; exact src_empty hk b 0
    · simp only [h1] at hs
      obtain ⟨cap, e1, e2, e3⟩ := hs
      refine ⟨xs, css, h, h3, ?_⟩
      rw [hc0, e1]
      refine src_cells hk (heap_at H h2) (fun j v hj => ?_) (by rw [flatten_length h3.lengths, h3.1]) (all2_one h3)
      have := all2_drop_get h4 j hj
      rw [h5] at this; exact this
  · rename_i r g lo len ex
    split at h
    case h_2 => cases h
    rename_i g' τ' xs hg
    obtain ⟨hgg, h⟩ := cond_some h
    split at h
    case isFalse => cases h
    rename_i ht; subst ht
    obtain ⟨c0, hc0, _, hs⟩ := (show (AVal.sub r g lo len ex).C x [a.eval vo] from hv)
    simp only [List.cons.injEq, and_true] at hc0
    have hobj := obj_of_get (H.obj r _ hg)
    unfold SubRel at hs
    rw [hobj] at hs
    obtain ⟨hll, base, cap, e1, e2, _, _, e3, e4⟩ := hs.2 (Nat.eq_of_beq_eq_true hgg)
    have hlen : ((xs.drop lo).take len).length = len := by simp; omega
    rcases Nat.eq_zero_or_pos len with h0 | hpos
    · subst h0
      refine ⟨_, [], h, ?_, ?_⟩
      · simp; exact All2.nil
      · rw [hc0, e1]; simpa using src_empty hk base cap
    · have hrel := H.mem.objs r
      rw [hobj] at hrel
      rcases hrel with ⟨h1, h2⟩ | ⟨b, o, c, e, css, h1, h2, h3, pre, post, h4, h5⟩
      · subst h2; simp at hll; omega
      · cases hbase : base with
        | none => have := e3 hbase; omega
        | some ba =>
          obtain ⟨a0, ha0, hba⟩ := e4 ba hbase (by omega)
          rw [h1] at ha0; cases ha0
          have hA : All2 (τ'.Rel x.h (x.S true)) ((xs.drop lo).take len) ((css.drop lo).take len) := by
            refine ⟨by simp [h3.1], fun i u v hu hv => ?_⟩
            rw [List.getElem?_take] at hu hv
            split at hu
            · rename_i hi
              rw [if_pos hi] at hv
              rw [List.getElem?_drop] at hu hv
              exact h3.2 _ _ _ hu hv
            · cases hu
          refine ⟨_, (css.drop lo).take len, h, hA, ?_⟩
          have hsplit : css.flatten = (css.take lo).flatten ++ ((css.drop lo).take len).flatten ++ ((css.drop lo).drop len).flatten := by
            conv => lhs; rw [← List.take_append_drop lo css, ← List.take_append_drop len (css.drop lo)]
            simp [List.flatten_append, List.append_assoc]
          have hpl : (css.take lo).flatten.length = lo * τ'.size := by
            rw [flatten_length (n := τ'.size) (fun d hd => h3.lengths d (List.mem_of_mem_take hd)), List.length_take, ← h3.1, Nat.min_eq_left (by omega)]
          rw [hc0, e1, hbase, hba, hlen]
          rw [add_mk]
          refine src_cells hk (heap_at H h2) (fun j v hj => ?_) (by rw [flatten_length hA.lengths, ← hA.1, hlen]) (all2_one hA)
          have := all2_drop_get (c := c) (pre := pre ++ (css.take lo).flatten) (mid := ((css.drop lo).take len).flatten) (post := ((css.drop lo).drop len).flatten ++ post) (by rw [h4, hsplit]; simp [List.append_assoc]) j hj
          rw [List.length_append, h5, hpl] at this; exact this
  · rename_i q τ' xs
    obtain ⟨hq, h⟩ := cond_some h
    split at h
    case isFalse => cases h
    rename_i ht; subst ht
    have hv : (Ty.slice τ').Rel x.h (x.S q) xs [a.eval vo] := hv
    have hv : ∃ base len cap, a.eval vo = .slice base len cap ∧ len = xs.length ∧ len ≤ cap ∧ (base = none → cap = 0) ∧ (0 < len → ∃ b o, base = some ⟨b, o, none⟩ ∧ ∃ css, Holds x.h b o css.flatten ∧ All2 (Ty.Rel x.h (x.S true) τ') xs css) := by
      obtain ⟨base, len, cap, hu, hl, hc, hnil, hb⟩ := hv
      simp only [List.cons.injEq, and_true] at hu
      refine ⟨base, len, cap, hu, hl, hc, hnil, fun hp => ?_⟩
      obtain ⟨b, o, h1, _, css, h2, A⟩ := hb hp
      refine ⟨b, o, h1, css, h2, ?_⟩
      rcases Bool.or_eq_true_iff.1 hq with hq | hq
      · subst hq; exact A
      · exact A.mono fun _ _ h => Ty.Rel.ofPlain _ _ _ hq h
    obtain ⟨base, len, cap, hu, hl, hc, hnil, hb⟩ := hv
    rcases Nat.eq_zero_or_pos len with h0 | hpos
    · subst h0
      have : xs = [] := List.length_eq_zero_iff.1 hl.symm
      subst this
      refine ⟨[], [], h, All2.nil, ?_⟩
      rw [hu]; exact src_empty hk base cap
    · obtain ⟨b, o, h1, css, ⟨c, e, fr, h3, h4⟩, A⟩ := hb hpos
      refine ⟨xs, css, h, A, ?_⟩
      rw [hu, h1, hl]
      exact src_cells hk (heap_at H h3) h4 (by rw [flatten_length A.lengths, A.1]) (all2_one A)
  · refine ⟨[], [], h, All2.nil, ?_⟩
    obtain ⟨b, hb⟩ := (show AVal.nils.C x [a.eval vo] from hv)
    simp only [List.cons.injEq, and_true] at hb
    rw [hb]; exact src_empty hk b 0
  · cases h

/-- There is room: the row is written. -/
theorem run_append_row (t tx ty e : TypeId) (i : TypeInfo) (ht : P.underlying t = some (.slice e)) (hi : P.info? e = some i) {b off sLen sCap : Nat} {v : Value} {n : Nat} {news : List Value} (hs : Src P i.size tx v n news w)
    (hroom : sLen + n ≤ sCap) {c : Array Value} {et : TypeId} (hb : w.heap[b]? = some (.cells c et (0, 0))) {pre mid post : List Value} (hc : c.toList = pre ++ mid ++ post) (hp : pre.length = off + sLen * i.size) (hm : mid.length = news.length) :
    (Builtin.append_ #[t, tx] ty #[.slice (some ⟨b, off, none⟩) sLen sCap, v]).run P w = .ok (.slice (some ⟨b, off, none⟩) (sLen + n) sCap) (w.setRow b (pre ++ news ++ post).toArray) := by
  have hlen : c.size = pre.length + mid.length + post.length := by rw [← Array.length_toList, hc]; simp; omega
  have hst := run_storeCells_at (P := P) b (off + sLen * i.size) et news 0 c w hb (by rw [hlen]; omega) hs.one
  have e1 : List.take (off + sLen * i.size + 0) c.toList = pre := by rw [hc, ← hp]; simp
  have e2 : List.drop (off + sLen * i.size + 0 + news.length) c.toList = post := by
    rw [hc, ← hp, ← hm, List.append_assoc, show pre.length + 0 + mid.length = pre.length + mid.length by omega, ← List.drop_drop, List.drop_left, List.drop_left]
  rw [e1, e2] at hst
  have hst' : (storeCells ⟨b, off + sLen * i.size, none⟩ news).run P w = .ok () (w.setRow b (pre ++ news ++ post).toArray) := hst
  rcases hs.kind with ⟨e', hk⟩ | hk <;> simp [Builtin.append_, run_underlying ht, run_underlying hk, sizeOf, typeInfo, hi, hs.len, hroom, hs.cells, Addr.add_lit, hst']

theorem run_append_call {o : Oper} {so vo : Operand} {ats : Array TypeId} (ho : o.op = .call { callee := .builtin .append, args := #[so, vo], argTypes := ats }) :
    (execOp a.eval o).run P w = ((Builtin.append_ ats o.type #[a.eval so, a.eval vo]).run P w).andThen fun v w' => .ok (.value v) w' := by
  simp only [execOp, ho, resolve, invoke, builtin, Sem.run_bind, Sem.run_pure, Result.andThen_ok, List.map_toArray, List.map_cons, List.map_nil]

/-- The state behind a change of row r: it lies in block blk now, from off on. -/
def Ctx.moved (x : Ctx) (blk off : Nat) (o : Obj) (r : Nat) (ob : AObj) : Ctx :=
  { h := fun b => if b = blk then some o else x.h b, S := x.S, μ := fun r' => if r' = r then some ⟨blk, off, none⟩ else x.μ r', σ := x.σ.set r ob }

/-- A row's old references are let go, its block is written, or it lies in a new one. -/
theorem goes_moved {w' : World} (M : Mem x) (hh : x.h = fun b => w.heap[b]?) {r g' : Nat} {τ : Ty} {xs zs : List τ.den} (h0 : x.σ[r]? = some (.arr g' τ xs)) {blk off : Nat} {c' : Array Value} {e : TypeId}
    (hblk : (∃ o1, x.μ r = some ⟨blk, o1, none⟩) ∨ blk = w.heap.size) (hw : ∀ b, w'.heap[b]? = if b = blk then some (.cells c' e (0, 0)) else w.heap[b]?) (os : w'.os = w.os) (tape : w'.tape = w.tape) (output : w'.output = w.output) (size : w.heap.size ≤ w'.heap.size)
    {css : List (List Value)} {pre post : List Value} (hc : c'.toList = pre ++ css.flatten ++ post) (hp : pre.length = off) (A : All2 (τ.Rel x.h (x.S true)) zs css) :
    Goes x w (x.moved blk off (.cells c' e (0, 0)) r (.arr (g' + 1) τ zs)) w' ∧
    ∀ cap, zs.length ≤ cap → off + cap * τ.size ≤ c'.size → (AVal.slc r (g' + 1)).V (x.moved blk off (.cells c' e (0, 0)) r (.arr (g' + 1) τ zs)) (.slice (some ⟨blk, off, none⟩) zs.length cap) := by
  have hob : ∀ r', (x.moved blk off (.cells c' e (0, 0)) r (.arr (g' + 1) τ zs)).obj r' = if r' = r then .arr (g' + 1) τ zs else x.obj r' := fun r' => obj_set h0
  have hμ : (x.moved blk off (.cells c' e (0, 0)) r (.arr (g' + 1) τ zs)).μ r = some ⟨blk, off, none⟩ := if_pos rfl
  have hobj := obj_of_get h0
  have hfresh : blk = w.heap.size → (x.h blk).isSome = false := fun e => by rw [hh, e]; simp
  have U0 : Upd0 x (x.moved blk off (.cells c' e (0, 0)) r (.arr (g' + 1) τ zs)) r := {
    S := rfl
    obj := fun r' hr => by rw [hob, if_neg hr]
    μ := fun r' hr => if_neg hr
    h := fun b hs hne => if_neg fun e => by
      subst e
      rcases hblk with ⟨o1, h1⟩ | h1
      · exact hne _ (by rw [hobj]; rfl) h1 rfl
      · rw [hfresh h1] at hs; cases hs
    keep := by
      refine ⟨fun g p c k => ?_, fun g c k => ?_, fun g lo len ex c k => ?_, fun c k => ?_⟩
      · unfold PtrRel at k ⊢; rw [hobj] at k; rw [hob, if_pos rfl]; exact ⟨Nat.le_succ_of_le k.1, fun e => absurd k.1 (by omega)⟩
      · unfold SlcRel at k ⊢; rw [hobj] at k; rw [hob, if_pos rfl]; exact ⟨Nat.le_succ_of_le k.1, fun e => absurd k.1 (by omega)⟩
      · unfold SubRel at k ⊢; rw [hobj] at k; rw [hob, if_pos rfl]; exact ⟨Nat.le_succ_of_le k.1, fun e => absurd k.1 (by omega)⟩
      · unfold MapRel; rw [hob, if_pos rfl]; trivial
    blk := fun a' _ ha' => by
      rw [hμ] at ha'; cases ha'
      rcases hblk with ⟨o1, h1⟩ | h1
      · exact .inl ⟨_, by rw [hobj]; rfl, h1, rfl⟩
      · exact .inr (hfresh h1) }
  have U : Upd x (x.moved blk off (.cells c' e (0, 0)) r (.arr (g' + 1) τ zs)) r := ⟨U0, by
    rw [hob, if_pos rfl]
    exact .inr ⟨blk, off, c', e, css, hμ, if_pos rfl, A.mono fun _ _ h => h.congr (U0.hS M true), pre, post, hc, hp⟩⟩
  refine ⟨U.goes M hh ?_ os tape output size, fun cap h1 h2 => show (AVal.slc r (g' + 1)).C _ _ from ⟨_, rfl, rfl, ?_⟩⟩
  · funext b
    rw [hw]
    show (if b = blk then _ else x.h b) = _
    rw [hh]
  · unfold SlcRel
    rw [hob, if_pos rfl]
    refine ⟨Nat.le_refl _, fun _ => ?_⟩
    simp only [hμ]
    refine ⟨cap, rfl, h1, ?_⟩
    intro c2 e2 fr2 h
    have h := (show (if blk = blk then some (Obj.cells c' e (0, 0)) else x.h blk) = _ from h)
    rw [if_pos rfl] at h; cases h
    exact h2

/-- A row that lies nowhere, and in which there is nothing. -/
theorem goes_bare (M : Mem x) (hh : x.h = fun b => w.heap[b]?) {r g' : Nat} {τ : Ty} {xs : List τ.den} (h0 : x.σ[r]? = some (.arr g' τ xs)) (h1 : x.μ r = none) :
    Goes x w { x with σ := x.σ.set r (.arr (g' + 1) τ []) } w ∧ ∀ b, (AVal.slc r (g' + 1)).V { x with σ := x.σ.set r (.arr (g' + 1) τ []) } (.slice b 0 0) := by
  have hob : ∀ r', ({ x with σ := x.σ.set r (.arr (g' + 1) τ []) } : Ctx).obj r' = if r' = r then .arr (g' + 1) τ [] else x.obj r' := fun r' => obj_set h0
  have hobj := obj_of_get h0
  have U0 : Upd0 x { x with σ := x.σ.set r (.arr (g' + 1) τ []) } r := {
    S := rfl
    obj := fun r' hr => by rw [hob, if_neg hr]
    μ := fun r' hr => rfl
    h := fun b hs hne => rfl
    keep := by
      refine ⟨fun g p c k => ?_, fun g c k => ?_, fun g lo len ex c k => ?_, fun c k => ?_⟩
      · unfold PtrRel at k ⊢; rw [hobj] at k; rw [hob, if_pos rfl]; exact ⟨Nat.le_succ_of_le k.1, fun e => absurd k.1 (by omega)⟩
      · unfold SlcRel at k ⊢; rw [hobj] at k; rw [hob, if_pos rfl]; exact ⟨Nat.le_succ_of_le k.1, fun e => absurd k.1 (by omega)⟩
      · unfold SubRel at k ⊢; rw [hobj] at k; rw [hob, if_pos rfl]; exact ⟨Nat.le_succ_of_le k.1, fun e => absurd k.1 (by omega)⟩
      · unfold MapRel; rw [hob, if_pos rfl]; trivial
    blk := fun a' _ ha' => by rw [show ({ x with σ := x.σ.set r (.arr (g' + 1) τ []) } : Ctx).μ r = none from h1] at ha'; cases ha' }
  have U : Upd x { x with σ := x.σ.set r (.arr (g' + 1) τ []) } r := ⟨U0, by rw [hob, if_pos rfl]; exact .inl ⟨h1, rfl⟩⟩
  refine ⟨U.goes M hh hh rfl rfl rfl (Nat.le_refl _), fun b => show (AVal.slc r (g' + 1)).C _ _ from ⟨_, rfl, rfl, ?_⟩⟩
  unfold SlcRel
  rw [hob, if_pos rfl]
  refine ⟨Nat.le_refl _, fun _ => ?_⟩
  simp only [h1]
  exact ⟨b, rfl⟩

/-- A free object becomes an empty row that lies nowhere. -/
theorem goes_empty (M : Mem x) (hh : x.h = fun b => w.heap[b]?) {r : Nat} (τ : Ty) (h0 : x.σ[r]? = some .free) :
    Goes x w { x with μ := fun r' => if r' = r then none else x.μ r', σ := x.σ.set r (.arr 0 τ []) } w ∧ ∀ b, (AVal.slc r 0).V { x with μ := fun r' => if r' = r then none else x.μ r', σ := x.σ.set r (.arr 0 τ []) } (.slice b 0 0) := by
  have hob : ∀ r', ({ x with μ := fun r' => if r' = r then none else x.μ r', σ := x.σ.set r (.arr 0 τ []) } : Ctx).obj r' = if r' = r then .arr 0 τ [] else x.obj r' := fun r' => obj_set h0
  have hobj := obj_of_get h0
  have hμ : ({ x with μ := fun r' => if r' = r then none else x.μ r', σ := x.σ.set r (.arr 0 τ []) } : Ctx).μ r = none := if_pos rfl
  have U0 : Upd0 x { x with μ := fun r' => if r' = r then none else x.μ r', σ := x.σ.set r (.arr 0 τ []) } r := {
    S := rfl
    obj := fun r' hr => by rw [hob, if_neg hr]
    μ := fun r' hr => if_neg hr
    h := fun b hs hne => rfl
    keep := .ofFree hobj
    blk := fun a' _ ha' => by rw [hμ] at ha'; cases ha' }
  have U : Upd x { x with μ := fun r' => if r' = r then none else x.μ r', σ := x.σ.set r (.arr 0 τ []) } r := ⟨U0, by rw [hob, if_pos rfl]; exact .inl ⟨hμ, rfl⟩⟩
  refine ⟨U.goes M hh hh rfl rfl rfl (Nat.le_refl _), fun b => show (AVal.slc r 0).C _ _ from ⟨_, rfl, rfl, ?_⟩⟩
  unfold SlcRel
  rw [hob, if_pos rfl]
  refine ⟨Nat.le_refl _, fun _ => ?_⟩
  simp only [if_true]
  exact ⟨b, rfl⟩

theorem zero_cells (z : Array Value) (n : Nat) : (Builtin.zeroCells z n).size = n * z.size := by simp [Builtin.zeroCells]

theorem grown_ge (w : World) (need old : Nat) (e : TypeId) : need ≤ grownCap w need old e := by
  unfold grownCap Question.cut; exact Nat.le_add_right _ _

theorem info_parts {t : TypeId} {d : TD} (h : TdOk P t d) : ∃ i z, P.info? t = some i ∧ i.size = d.size ∧ i.bytes = d.bytes ∧ i.zero = some z ∧ ∀ x : Ctx, d.zero.V x z := by
  obtain ⟨i, h1, h2, h3, z, h4, h5⟩ := h.info
  exact ⟨i, z, h1, h2, h3, h4, h5⟩

theorem heap_alloc_drew (o : Obj) : ∀ b, (w.drew.alloc o).heap[b]? = if b = w.heap.size then some o else w.heap[b]? := by
  intro b
  exact congrFun (heap_alloc w.drew o) b

/-- An append that grows: what lies in the new block. -/
theorem run_append_new (H : Meets P T ρ get a w x) {t tx ty e : TypeId} {ed : TD} (hed : T e = some ed) (ht : P.underlying t = some (.slice e)) {τ : Ty} (hsz : ed.size = τ.size) (hzf : ed.zero.flat = true) (hzs : ed.zero.sh.size = ed.size)
    {base : Option Addr} {sLen sCap : Nat} {xs : List τ.den} {css : List (List Value)} (A : All2 (τ.Rel x.h (x.S true)) xs css) (hlen : xs.length = sLen)
    (hold : (Builtin.firstCells τ.size sLen (.slice base sLen sCap)).run P w.drew = .ok css.flatten.toArray w.drew) {v : Value} {ys : List τ.den} {cys : List (List Value)} (B : All2 (τ.Rel x.h (x.S true)) ys cys) (hs : Src P τ.size tx v ys.length cys.flatten w)
    (hg : sCap < sLen + ys.length) (hb : (sLen + ys.length) * ed.bytes ≤ 140737488355328) (hb1 : 1 ≤ ed.bytes) :
    ∃ (cells : Array Value) (post : List Value) (cap : Nat), (Builtin.append_ #[t, tx] ty #[.slice base sLen sCap, v]).run P w = .ok (.slice (some ⟨w.heap.size, 0, none⟩) (xs ++ ys).length cap) (w.drew.alloc (.cells cells e (0, 0))) ∧
      cells.toList = [] ++ (css ++ cys).flatten ++ post ∧ (xs ++ ys).length ≤ cap ∧ 0 + cap * τ.size ≤ cells.size := by
  have hok := H.tbl e ed hed
  obtain ⟨i, z, hi, his, hib, hz, hzv⟩ := info_parts hok
  have h63 : ((sLen + ys.length : Nat) : Int) ≤ 9223372036854775807 := by
    have : sLen + ys.length ≤ (sLen + ys.length) * ed.bytes := Nat.le_mul_of_pos_right _ hb1
    omega
  have hsz' : i.size = τ.size := by rw [his, hsz]
  have hrun := run_append_grow_src (P := P) w t tx ty e i z ht hi hz base sLen sCap css.flatten (by rw [hsz']; exact hold) v ys.length cys.flatten (by rw [hsz']; exact hs) hg h63 (growslice_fits hg (by rw [hib]; exact hb))
  have hzc : z.cells.size = τ.size := by
    obtain ⟨hC, _, _⟩ := V_inv hzf (hzv x)
    rw [← Array.length_toList, AVal.C.length _ _ hC, hzs, hsz]
  have hge := grown_ge w (sLen + ys.length) sCap e
  have hal : (xs ++ ys).length = sLen + ys.length := by rw [List.length_append, hlen]
  refine ⟨_, (Builtin.zeroCells z.cells (grownCap w (sLen + ys.length) sCap e - (sLen + ys.length))).toList, _, by rw [hal]; exact hrun, by simp, by rw [hal]; exact hge, ?_⟩
  rw [Array.size_append, zero_cells, hzc, List.size_toArray, List.length_append, flatten_length A.lengths, flatten_length B.lengths, ← A.1, ← B.1, hlen, ← Nat.add_mul, ← Nat.add_mul, Nat.zero_add]
  exact Nat.mul_le_mul_right _ (by omega)

/-- A row is written over; it is as long as it was, and lies where it lay. -/
theorem goes_over {w' : World} (M : Mem x) (hh : x.h = fun b => w.heap[b]?) {r g' : Nat} {τ : Ty} {xs zs : List τ.den} (h0 : x.σ[r]? = some (.arr g' τ xs)) {blk off : Nat} {c c' : Array Value} {e : TypeId}
    (h1 : x.μ r = some ⟨blk, off, none⟩) (h2 : x.h blk = some (.cells c e (0, 0))) (hcs : c'.size = c.size) (hl : zs.length = xs.length) (hw : w' = w.setRow blk c')
    {css : List (List Value)} {pre post : List Value} (hc : c'.toList = pre ++ css.flatten ++ post) (hp : pre.length = off) (A : All2 (τ.Rel x.h (x.S true)) zs css) :
    Goes x w (x.wrote blk (.cells c' e (0, 0)) r (.arr g' τ zs)) w' := by
  have hobj := obj_of_get h0
  have hk : Keeps x (x.wrote blk (.cells c' e (0, 0)) r (.arr g' τ zs)) r := by
    refine ⟨fun g p c hp => ?_, fun g c1 hp => ?_, fun g lo len ex c hp => ?_, fun c hp => ?_⟩
    · unfold PtrRel at hp ⊢; rw [wrote_obj h0, if_pos rfl]; rw [hobj] at hp; exact hp
    · unfold SlcRel at hp ⊢
      rw [wrote_obj h0, if_pos rfl]; rw [hobj] at hp
      refine ⟨hp.1, fun hgg' => ?_⟩
      have hp := hp.2 hgg'
      simp only [Ctx.wrote, h1] at hp ⊢
      obtain ⟨cap, e1, e2, e3⟩ := hp
      refine ⟨cap, by rw [hl]; exact e1, by rw [hl]; exact e2, ?_⟩
      intro c2 e2' fr2 h
      have h := (show (if blk = blk then some (Obj.cells c' e (0, 0)) else x.h blk) = _ from h)
      rw [if_pos rfl] at h; cases h
      have := e3 c e (0, 0) h2
      rw [hcs]; exact this
    · unfold SubRel at hp ⊢; rw [wrote_obj h0, if_pos rfl]; rw [hobj] at hp; simp only [hl]; exact hp
    · unfold MapRel; rw [wrote_obj h0, if_pos rfl]; trivial
  have U0 := upd0_wrote (x := x) h0 rfl h1 hk
  have U : Upd x (x.wrote blk (.cells c' e (0, 0)) r (.arr g' τ zs)) r := ⟨U0, by
    rw [wrote_obj h0, if_pos rfl]
    exact .inr ⟨blk, off, c', e, css, h1, if_pos rfl, A.mono fun _ _ h => h.congr (U0.hS M true), pre, post, hc, hp⟩⟩
  subst hw
  refine U.goes M hh ?_ rfl rfl rfl (by rw [setRow_size]; exact Nat.le_refl _)
  funext b
  rw [setRow_heap_eq (show w.heap[blk]? = _ from by have := hh ▸ h2; exact this)]
  show (if b = blk then _ else x.h b) = _
  rw [hh]

theorem take_take_all2 {h : Heap} {S : Nat → Prop} {τ : Ty} {xs : List τ.den} {css : List (List Value)} (A : All2 (τ.Rel h S) xs css) (n : Nat) : All2 (τ.Rel h S) (xs.take n) (css.take n) :=
  ⟨by simp [A.1], fun i u v hu hv => by
    rw [List.getElem?_take] at hu hv
    split at hu
    · rename_i hi; rw [if_pos hi] at hv; exact A.2 _ _ _ hu hv
    · cases hu⟩

theorem drop_all2 {h : Heap} {S : Nat → Prop} {τ : Ty} {xs : List τ.den} {css : List (List Value)} (A : All2 (τ.Rel h S) xs css) (n : Nat) : All2 (τ.Rel h S) (xs.drop n) (css.drop n) :=
  ⟨by simp [A.1], fun i u v hu hv => by rw [List.getElem?_drop] at hu hv; exact A.2 _ _ _ hu hv⟩

theorem actAppend_ok (H : Meets P T ρ get a w x) {o : Oper} {base : Nat} {t tx : TypeId} {so vo : Operand} (ho : o.op = .call { callee := .builtin .append, args := #[so, vo], argTypes := #[t, tx] })
    {s v : AVal} (hsv : s.V x (a.eval so)) (hv : v.V x (a.eval vo)) {k : AVal → Ups → Option R} {z : R} (hk : actAppend T get base t tx s v k = some z) : ∃ u ups, k u ups = some z ∧ ActOk P o a w x u ups := by
  unfold actAppend at hk
  split at hk
  case h_2 => cases hk
  rename_i e e' hut hux
  have ht : P.underlying t = some (.slice e) := undOf_ok H.tbl hut (by simp)
  have htx : P.underlying tx = some (.slice e') := undOf_ok H.tbl hux (by simp)
  split at hk
  case h_2 => cases hk
  rename_i ed hed
  obtain ⟨hcond, hk⟩ := cond_some hk
  simp only [Bool.and_eq_true] at hcond
  have hb1 := Nat.le_of_ble_eq_true hcond.1.1
  have hzf := hcond.1.2
  have hzs := Nat.eq_of_beq_eq_true hcond.2
  have hok := H.tbl e ed hed
  obtain ⟨i, zz, hi, his, hib, hz, hzv⟩ := info_parts hok
  -- how a run is used
  have fin : ∀ (val : Value) (w' : World) (u : AVal) (ups : Ups) (x' : Ctx), (Builtin.append_ #[t, tx] o.type #[a.eval so, a.eval vo]).run P w = .ok val w' → Goes x w x' w' → x'.σ = applyUps x.σ ups → u.V x' val → ActOk P o a w x u ups := by
    intro val w' u ups x' hrun G hσ hV next Q hnext
    unfold Oper.wp
    rw [run_append_call ho, hrun]
    simp only [Result.andThen_ok, Oper.upon_value]
    exact hnext _ _ _ G hσ hV
  split at hk
  · -- a slice of the call's own
    rename_i r g hkk
    clear hkk
    split at hk
    case h_2 => cases hk
    rename_i g' τ xs hg
    obtain ⟨hc, hk⟩ := cond_some hk
    rw [Bool.and_eq_true] at hc
    have hgg := Nat.eq_of_beq_eq_true hc.1
    have hsz := Nat.eq_of_beq_eq_true hc.2
    obtain ⟨ys, cys, hk, B, hsrc⟩ := srcK_ok H hv htx hk
    split at hk
    case isFalse => cases hk
    rename_i hfit
    refine ⟨_, _, hk, ?_⟩
    have h0 := H.obj r _ hg
    have hobj := obj_of_get h0
    have hsz' : i.size = τ.size := by rw [his, hsz]
    obtain ⟨c0, hc0, _, hr⟩ := (show (AVal.slc r g).C x [a.eval so] from hsv)
    simp only [List.cons.injEq, and_true] at hc0
    unfold SlcRel at hr
    rw [hobj] at hr
    have hr := hr.2 hgg
    have hrel := H.mem.objs r
    rw [hobj] at hrel
    rcases hrel with ⟨h1, h2⟩ | ⟨blk, off, c, et, css, h1, h2, A, pre, post, h4, h5⟩
    · subst h2
      simp only [h1] at hr
      obtain ⟨b, hb⟩ := hr
      rw [hb] at hc0
      rcases Nat.eq_zero_or_pos ys.length with hn | hn
      · have hy : ys = [] := List.length_eq_zero_iff.1 hn
        subst hy
        have hcy : cys = [] := B.nil_inv
        subst hcy
        obtain ⟨G, V⟩ := goes_bare (g' := g') H.mem H.h h0 h1
        refine fin _ _ _ _ _ ?_ G (by rw [applyUps_one]; simp) (V b)
        rw [hc0]
        exact run_append_nothing w t tx o.type e i ht hi b 0 0 (Nat.le_refl _) _ (by rw [hsz']; exact hsrc)
      · obtain ⟨cells, post, cap, hrun, e1, e2, e3⟩ := run_append_new H (ty := o.type) hed ht (τ := τ) hsz hzf hzs (base := b) (sLen := 0) (sCap := 0) (xs := []) All2.nil rfl
          (by cases b with
            | none => exact run_firstCells_none _ _ _ _ _
            | some b => exact run_firstCells_some _ _ _ _ _ _ [] (by simp) (fun j v h => by simp at h)) B hsrc (by omega) (by simpa using hfit) hb1
        obtain ⟨G, V⟩ := goes_moved (w' := w.drew.alloc (.cells cells e (0, 0))) (zs := [] ++ ys) H.mem H.h h0 (blk := w.heap.size) (off := 0) (c' := cells) (e := e) (.inr rfl) (heap_alloc_drew _) rfl rfl rfl (by show _ ≤ (w.heap.push _).size; simp) e1 rfl (All2.nil.append B)
        exact fin _ _ _ _ _ (by rw [hc0]; exact hrun) G applyUps_one (V cap e2 e3)
    · simp only [h1] at hr
      obtain ⟨cap, e1, e2, e3⟩ := hr
      rw [e1] at hc0
      have hroom := e3 c et (0, 0) h2
      have hAl := flatten_length A.lengths
      have hBl := flatten_length B.lengths
      rw [← A.1] at hAl
      rw [← B.1] at hBl
      rcases Nat.lt_or_ge cap (xs.length + ys.length) with hg1 | hg1
      · obtain ⟨cells, post', cap', hrun, f1, f2, f3⟩ := run_append_new H (ty := o.type) hed ht (τ := τ) hsz hzf hzs (base := some ⟨blk, off, none⟩) (sLen := xs.length) (sCap := cap) A rfl
          (run_firstCells_some _ _ _ _ _ _ _ (by rw [hAl]) (fun j v hj => by
            rw [add_mk]
            show w.cell? _ = _
            rw [cell_of_heap (heap_at H h2), ← h5]; exact all2_drop_get h4 j hj)) B hsrc hg1 hfit hb1
        obtain ⟨G, V⟩ := goes_moved (w' := w.drew.alloc (.cells cells e (0, 0))) (zs := xs ++ ys) H.mem H.h h0 (blk := w.heap.size) (off := 0) (c' := cells) (e := e) (.inr rfl) (heap_alloc_drew _) rfl rfl rfl (by show _ ≤ (w.heap.push _).size; simp) f1 rfl (A.append B)
        exact fin _ _ _ _ _ (by rw [hc0]; exact hrun) G applyUps_one (V cap' f2 f3)
      · have hpost : cys.flatten.length ≤ post.length := by
          have e4 : c.size = pre.length + css.flatten.length + post.length := by rw [← Array.length_toList, h4]; simp; omega
          have e5 : (xs.length + ys.length) * τ.size ≤ cap * τ.size := Nat.mul_le_mul_right _ hg1
          rw [Nat.add_mul] at e5
          simp only at hroom
          omega
        have hrun := run_append_row (P := P) t tx o.type e i ht hi (sLen := xs.length) (sCap := cap) (n := ys.length) (by rw [hsz']; exact hsrc) hg1 (heap_at H h2) (pre := pre ++ css.flatten) (mid := post.take cys.flatten.length) (post := post.drop cys.flatten.length)
          (by rw [h4, List.append_assoc _ (post.take _), List.take_append_drop]) (off := off) (by rw [List.length_append, h5, hAl, hsz']) (by rw [List.length_take]; omega)
        have hcs : (pre ++ css.flatten ++ cys.flatten ++ post.drop cys.flatten.length).toArray.size = c.size := by
          rw [← Array.length_toList (xs := c), h4]; simp only [List.size_toArray, List.length_append, List.length_drop]; omega
        obtain ⟨G, V⟩ := goes_moved (w' := w.setRow blk (pre ++ css.flatten ++ cys.flatten ++ post.drop cys.flatten.length).toArray) (zs := xs ++ ys) H.mem H.h h0 (blk := blk) (off := off) (e := et) (.inl ⟨off, h1⟩) (setRow_heap_eq (heap_at H h2) _) rfl rfl rfl (by rw [setRow_size]; exact Nat.le_refl _)
          (css := css ++ cys) (pre := pre) (post := post.drop cys.flatten.length) (by simp) h5 (A.append B)
        have V := V cap (by simpa using hg1) (by rw [hcs]; exact hroom)
        rw [List.length_append] at V
        exact fin _ _ _ _ _ (by rw [hc0]; exact hrun) G applyUps_one V
  · -- a slice that is nil
    split at hk
    case h_2 => cases hk
    rename_i τ hτ hg
    obtain ⟨hc, hk⟩ := cond_some hk
    have hsz := Nat.eq_of_beq_eq_true hc
    obtain ⟨ys, cys, hk, B, hsrc⟩ := srcK_ok H hv htx hk
    split at hk
    case isFalse => cases hk
    rename_i hfit
    refine ⟨_, _, hk, ?_⟩
    have h0 := H.obj base _ hg
    have hsz' : i.size = τ.size := by rw [his, hsz]
    obtain ⟨b, hb⟩ := (show AVal.nils.C x [a.eval so] from hsv)
    simp only [List.cons.injEq, and_true] at hb
    rcases Nat.eq_zero_or_pos ys.length with hn | hn
    · have hy : ys = [] := List.length_eq_zero_iff.1 hn
      subst hy
      have hcy : cys = [] := B.nil_inv
      subst hcy
      obtain ⟨G, V⟩ := goes_empty H.mem H.h τ h0
      refine fin _ _ _ _ _ ?_ G applyUps_one (V b)
      rw [hb]
      exact run_append_nothing w t tx o.type e i ht hi b 0 0 (Nat.le_refl _) _ (by rw [hsz']; exact hsrc)
    · obtain ⟨cells, post, cap, hrun, e1, e2, e3⟩ := run_append_new H (ty := o.type) hed ht (τ := τ) hsz hzf hzs (base := b) (sLen := 0) (sCap := 0) (xs := []) All2.nil rfl
        (by cases b with
          | none => exact run_firstCells_none _ _ _ _ _
          | some b => exact run_firstCells_some _ _ _ _ _ _ [] (by simp) (fun j v h => by simp at h)) B hsrc (by omega) (by simpa using hfit) hb1
      obtain ⟨G, V⟩ := slc_made (e := e) (ys := [] ++ ys) (cells := cells) h0 H.h H.mem (css := cys) (post := post) (by simpa using e1) B e2 (by simpa using e3) (w.drawn + 1)
      exact fin _ _ _ _ _ (by rw [hb]; exact hrun) G applyUps_one V
  · -- a part, in place
    rename_i r g lo len hkk
    clear hkk
    split at hk
    case h_2 => cases hk
    rename_i g' τ xs hg
    obtain ⟨hc, hk⟩ := cond_some hk
    rw [Bool.and_eq_true] at hc
    have hgg := Nat.eq_of_beq_eq_true hc.1
    have hsz := Nat.eq_of_beq_eq_true hc.2
    obtain ⟨ys, cys, hk, B, hsrc⟩ := srcK_ok H hv htx hk
    split at hk
    case isFalse => cases hk
    rename_i hfit
    refine ⟨_, _, hk, ?_⟩
    have h0 := H.obj r _ hg
    have hobj := obj_of_get h0
    have hsz' : i.size = τ.size := by rw [his, hsz]
    obtain ⟨c0, hc0, _, hr⟩ := (show (AVal.sub r g lo len false).C x [a.eval so] from hsv)
    simp only [List.cons.injEq, and_true] at hc0
    have hr0 := hr
    unfold SubRel at hr
    rw [hobj] at hr
    obtain ⟨hle, sb, cap, e1, e2, _, e4, e5, e6⟩ := hr.2 hgg
    have e4 := e4 rfl
    rw [e1] at hc0
    have hrel := H.mem.objs r
    rw [hobj] at hrel
    have hxl : (xs.take (lo + len) ++ ys ++ xs.drop (lo + len + ys.length)).length = xs.length := by
      simp only [List.length_append, List.length_take, List.length_drop]; omega
    have hV : ∀ x' : Ctx, x'.obj r = .arr g' τ (xs.take (lo + len) ++ ys ++ xs.drop (lo + len + ys.length)) → x'.μ r = x.μ r → (AVal.sub r g lo (len + ys.length) false).V x' (.slice sb (len + ys.length) cap) := by
      intro x' ho' hμ'
      refine (show (AVal.sub r g lo (len + ys.length) false).C x' _ from ⟨_, rfl, rfl, ?_⟩)
      unfold SubRel
      rw [ho', hμ']
      exact ⟨hr.1, fun _ => ⟨by rw [hxl]; omega, sb, cap, rfl, by omega, (fun h => by cases h), fun _ => by rw [hxl]; exact e4, e5, e6⟩⟩
    rcases Nat.eq_zero_or_pos ys.length with hn | hn
    · have hy : ys = [] := List.length_eq_zero_iff.1 hn
      subst hy
      have hcy : cys = [] := B.nil_inv
      subst hcy
      have hsame : xs.take (lo + len) ++ [] ++ xs.drop (lo + len + ([] : List τ.den).length) = xs := by simp
      refine fin (.slice sb len cap) w _ _ x ?_ (.refl H.mem H.h) ?_ ?_
      · rw [hc0]
        exact run_append_nothing w t tx o.type e i ht hi sb len cap e2 _ (by rw [hsz']; exact hsrc)
      · rw [applyUps_one, hsame]
        obtain ⟨hl, hlt⟩ := List.getElem?_eq_some_iff.1 h0
        rw [← hlt, List.set_getElem_self]
      · have := hV x (by rw [hsame]; exact hobj) rfl
        simpa using this
    · rcases hrel with ⟨h1, h2⟩ | ⟨blk, off, c, et, css, h1, h2, A, pre, post, h4, h5⟩
      · subst h2; simp only [List.length_nil] at hfit; omega
      · cases sb with
        | none => have := e5 rfl; omega
        | some b0 =>
          obtain ⟨a0, f1, f3⟩ := e6 b0 rfl (by omega)
          rw [h1] at f1; cases f1
          rw [add_mk] at f3; subst f3
          have hAl := flatten_length A.lengths
          have hBl := flatten_length B.lengths
          rw [← A.1] at hAl
          rw [← B.1] at hBl
          have hcl := A.1
          have hsplit : css.flatten = (css.take (lo + len)).flatten ++ ((css.drop (lo + len)).take ys.length).flatten ++ (css.drop (lo + len + ys.length)).flatten := by
            conv => lhs; rw [← List.take_append_drop (lo + len) css, ← List.take_append_drop ys.length (css.drop (lo + len))]
            simp [List.flatten_append, List.append_assoc, List.drop_drop]
          have hpl : (css.take (lo + len)).flatten.length = (lo + len) * τ.size := by
            rw [flatten_length (n := τ.size) (fun d hd => A.lengths d (List.mem_of_mem_take hd)), List.length_take, Nat.min_eq_left (by omega)]
          have hml : ((css.drop (lo + len)).take ys.length).flatten.length = ys.length * τ.size := by
            rw [flatten_length (n := τ.size) (fun d hd => A.lengths d (List.mem_of_mem_drop (List.mem_of_mem_take hd))), List.length_take, List.length_drop, Nat.min_eq_left (by omega)]
          have hrun := run_append_row (P := P) t tx o.type e i ht hi (sLen := len) (sCap := cap) (n := ys.length) (by rw [hsz']; exact hsrc) (by omega) (heap_at H h2) (pre := pre ++ (css.take (lo + len)).flatten) (mid := ((css.drop (lo + len)).take ys.length).flatten) (post := (css.drop (lo + len + ys.length)).flatten ++ post)
            (by rw [h4, hsplit]; simp [List.append_assoc]) (off := off + lo * τ.size) (by rw [List.length_append, h5, hpl, hsz', Nat.add_mul]; omega) (by rw [hml, hBl])
          have G := goes_over (w' := w.setRow blk (pre ++ (css.take (lo + len)).flatten ++ cys.flatten ++ ((css.drop (lo + len + ys.length)).flatten ++ post)).toArray) (zs := xs.take (lo + len) ++ ys ++ xs.drop (lo + len + ys.length)) H.mem H.h h0 (e := et) h1 h2
            (c' := (pre ++ (css.take (lo + len)).flatten ++ cys.flatten ++ ((css.drop (lo + len + ys.length)).flatten ++ post)).toArray)
            (by
              have e7 : c.size = pre.length + css.flatten.length + post.length := by rw [← Array.length_toList, h4]; simp; omega
              have e8 := congrArg List.length hsplit
              simp only [List.length_append] at e8
              rw [e7]; simp only [List.size_toArray, List.length_append]; omega) hxl rfl
            (css := css.take (lo + len) ++ cys ++ css.drop (lo + len + ys.length)) (pre := pre) (post := post) (by simp) h5 (((take_take_all2 A _).append B).append (drop_all2 A _))
          exact fin _ _ _ _ _ (by rw [hc0]; exact hrun) G applyUps_one (hV _ (by rw [wrote_obj h0, if_pos rfl]) rfl)
  · -- a part whose capacity is its length
    rename_i r g lo len hkk
    clear hkk
    split at hk
    case h_2 => cases hk
    rename_i g' τ xs hg hgb
    obtain ⟨hc, hk⟩ := cond_some hk
    rw [Bool.and_eq_true] at hc
    have hgg := Nat.eq_of_beq_eq_true hc.1
    have hsz := Nat.eq_of_beq_eq_true hc.2
    obtain ⟨ys, cys, hk, B, hsrc⟩ := srcK_ok H hv htx hk
    split at hk
    case isFalse => cases hk
    rename_i hfit
    refine ⟨_, _, hk, ?_⟩
    have hb0 := H.obj base _ hgb
    have hsz' : i.size = τ.size := by rw [his, hsz]
    obtain ⟨ys0, css0, hk0, A0, hsrc0⟩ := srcK_ok (R := List τ.den) (k := some) (z := (xs.drop lo).take len) H hsv ht (by simp [srcK, hg, hgg])
    cases hk0
    obtain ⟨c0, hc0, _, hr⟩ := (show (AVal.sub r g lo len true).C x [a.eval so] from hsv)
    simp only [List.cons.injEq, and_true] at hc0
    unfold SubRel at hr
    rw [obj_of_get (H.obj r _ hg)] at hr
    obtain ⟨hle, sb, cap, e1, e2, e3, _, e5, e6⟩ := hr.2 hgg
    have e3 := e3 rfl
    subst e3
    rw [e1] at hc0
    have hl0 : ((xs.drop lo).take cap).length = cap := by simp; omega
    rw [hl0, hc0] at hsrc0
    rcases Nat.eq_zero_or_pos ys.length with hn | hn
    · have hy : ys = [] := List.length_eq_zero_iff.1 hn
      subst hy
      have hcy : cys = [] := B.nil_inv
      subst hcy
      have hcap : cap = 0 := by rcases hfit.1 with h | h; exact absurd h (by simp); exact h
      subst hcap
      have hnil : (xs.drop lo).take 0 ++ ([] : List τ.den) = [] := by simp
      rw [hnil]
      obtain ⟨G, V⟩ := goes_empty H.mem H.h τ hb0
      refine fin _ _ _ _ _ ?_ G applyUps_one (V sb)
      rw [hc0]
      exact run_append_nothing w t tx o.type e i ht hi sb 0 0 (Nat.le_refl _) _ (by rw [hsz']; exact hsrc)
    obtain ⟨cells, post, cap', hrun, f1, f2, f3⟩ := run_append_new H (ty := o.type) hed ht (τ := τ) hsz hzf hzs (base := sb) (sLen := cap) (sCap := cap) A0 hl0 hsrc0.cellsD B hsrc (by omega) hfit.2 hb1
    obtain ⟨G, V⟩ := slc_made (e := e) (ys := (xs.drop lo).take cap ++ ys) (cells := cells) hb0 H.h H.mem (css := css0 ++ cys) (post := post) (by simpa using f1) (A0.append B) f2 (by simpa using f3) (w.drawn + 1)
    exact fin _ _ _ _ _ (by rw [hc0]; exact hrun) G applyUps_one V
  · cases hk
end
end Go.Am
