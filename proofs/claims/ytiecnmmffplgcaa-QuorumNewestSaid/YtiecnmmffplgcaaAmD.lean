/- The abstract machine, fourth part: what a step of the model may do to a state; types as a table; loads and stores. -/
import Derived.Test.YtiecnmmffplgcaaAmC
import Derived.Laws.Entries
import Derived.ChangeKeysEq
namespace Go.Am

def Owned (x : Ctx) (b : Nat) : Prop := ∃ r a, (x.obj r).live = true ∧ x.μ r = some a ∧ a.block = b

structure Goes (x : Ctx) (w : World) (x' : Ctx) (w' : World) : Prop where
  mem : Mem x'
  h : x'.h = fun b => w'.heap[b]?
  S : ∀ p b, x.S p b → x'.S p b ∧ x'.h b = x.h b
  keeps : ∀ r, Keeps x x' r
  os : w'.os = w.os
  tape : w'.tape = w.tape
  output : w'.output = w.output
  size : w.heap.size ≤ w'.heap.size
  frame : ∀ b, b < w.heap.size → ¬ Owned x b → w'.heap[b]? = w.heap[b]?
  own : ∀ b, Owned x' b → Owned x b ∨ w.heap.size ≤ b
  newS : ∀ p b, x'.S p b → x.S p b ∨ Owned x b ∨ w.heap.size ≤ b

theorem Goes.refl {x : Ctx} {w : World} (M : Mem x) (hh : x.h = fun b => w.heap[b]?) : Goes x w x w :=
  ⟨M, hh, fun _ _ h => ⟨h, rfl⟩, fun r => .refl x r, rfl, rfl, rfl, Nat.le_refl _, fun _ _ _ => rfl, fun _ h => .inl h, fun _ _ h => .inl h⟩

theorem Goes.trans {x y z : Ctx} {w v u : World} (h : Goes x w y v) (k : Goes y v z u) : Goes x w z u where
  mem := k.mem
  h := k.h
  S := fun p b hb => ⟨(k.S p b (h.S p b hb).1).1, ((k.S p b (h.S p b hb).1).2).trans (h.S p b hb).2⟩
  keeps := fun r => (h.keeps r).trans (k.keeps r)
  os := k.os.trans h.os
  tape := k.tape.trans h.tape
  output := k.output.trans h.output
  size := Nat.le_trans h.size k.size
  frame := fun b hb ho => (k.frame b (Nat.lt_of_lt_of_le hb h.size) fun o => (h.own b o).elim ho fun hle => by omega).trans (h.frame b hb ho)
  own := fun b o => (k.own b o).elim (h.own b) fun hle => .inr (Nat.le_trans h.size hle)
  newS := fun p b hs => by
    rcases k.newS p b hs with h1 | h1 | h1
    · exact h.newS p b h1
    · rcases h.own b h1 with h2 | h2
      · exact .inr (.inl h2)
      · exact .inr (.inr h2)
    · exact .inr (.inr (Nat.le_trans h.size h1))

theorem isSome_heap {w : World} {b : Nat} : (w.heap[b]?).isSome = true ↔ b < w.heap.size := by simp

/-- A draw. -/
theorem Goes.drew {x : Ctx} {w : World} (M : Mem x) (hh : x.h = fun b => w.heap[b]?) (n : Nat) : Goes x w x { w with drawn := n } :=
  ⟨M, hh, fun _ _ h => ⟨h, rfl⟩, fun r => .refl x r, rfl, rfl, rfl, Nat.le_refl _, fun _ _ _ => rfl, fun _ h => .inl h, fun _ _ h => .inl h⟩

theorem Upd.goes {x x' : Ctx} {r : Nat} {w w' : World} (U : Upd x x' r) (M : Mem x) (hh : x.h = fun b => w.heap[b]?) (hh' : x'.h = fun b => w'.heap[b]?)
    (os : w'.os = w.os) (tape : w'.tape = w.tape) (output : w'.output = w.output) (size : w.heap.size ≤ w'.heap.size) : Goes x w x' w' where
  mem := U.mem M
  h := hh'
  S := U.toUpd0.hS M
  keeps := U.toUpd0.keeps M
  os := os
  tape := tape
  output := output
  size := size
  frame := fun b hb ho => by
    have h := U.h b (by rw [hh]; simpa using hb) fun a hl ha e => ho ⟨r, a, hl, ha, e⟩
    rw [hh, hh'] at h; exact h
  own := fun b ⟨r', a, hl, ha, e⟩ => by
    by_cases hr : r' = r
    · subst hr
      rcases U.blk a hl ha with ⟨a0, h1, h2, h3⟩ | hn
      · exact .inl ⟨r', a0, h1, h2, h3.trans e⟩
      · refine .inr ?_
        rw [hh, e] at hn
        simpa using hn
    · rw [U.obj r' hr] at hl; rw [U.μ r' hr] at ha; exact .inl ⟨r', a, hl, ha, e⟩
  newS := fun p b hb => by rw [U.S] at hb; exact .inl hb

/-- What a type is. -/
inductive Und where
  | int (k : IntKind) | bool | str
  | struct (fs : List (Nat × TypeId)) | arr (n : Nat) (e : TypeId)
  | slice (e : TypeId) | map (k e : TypeId) | ptr (e : TypeId) | other

structure TD where
  und : Und
  size : Nat
  bytes : Nat
  zero : AVal
  cmp : Bool := false

abbrev Tbl := TypeId → Option TD

def Und.agg : Und → Bool
  | .struct _ | .arr _ _ => true
  | _ => false

def UndOk (P : Program) (t : TypeId) : Und → Prop
  | .int k => P.underlying t = some (.int k)
  | .bool => P.underlying t = some .bool
  | .str => P.underlying t = some .string
  | .struct fs => ∃ fields, P.underlying t = some (.struct fields) ∧ fields.toList.map (fun f => (f.offset, f.type)) = fs ∧ ∀ f ∈ fields.toList, f.name ≠ "_"
  | .arr n e => P.underlying t = some (.array n e)
  | .slice e => P.underlying t = some (.slice e)
  | .map k e => P.underlying t = some (.map k e)
  | .ptr e => P.underlying t = some (.pointer e)
  | .other => ∃ d, P.underlying t = some d ∧ (match d with | .struct _ | .array _ _ => true | _ => false) = false

structure TdOk (P : Program) (t : TypeId) (d : TD) : Prop where
  info : ∃ i, P.info? t = some i ∧ i.size = d.size ∧ i.bytes = d.bytes ∧ ∃ z, i.zero = some z ∧ ∀ x : Ctx, d.zero.V x z
  und : UndOk P t d.und
  plain : d.cmp = true → P.stoodInHeld t = false ∧ P.eqGuardType P.depth t = false

def TblOk (P : Program) (T : Tbl) : Prop := ∀ t d, T t = some d → TdOk P t d

section
variable {P : Program} {T : Tbl} {t : TypeId} {d : TD} {w : World}

theorem TdOk.isAgg (h : TdOk P t d) : (isAgg t).run P w = .ok d.und.agg w := by
  have hu := h.und
  unfold Go.isAgg
  cases hd : d.und with
  | struct fs => rw [hd] at hu; obtain ⟨fields, h1, _⟩ := hu; simp [run_underlying h1, Und.agg]
  | other =>
    rw [hd] at hu; obtain ⟨e, h1, h2⟩ := hu
    simp only [Sem.run_bind, run_underlying h1, Result.andThen_ok, Und.agg]
    cases e <;> first | rfl | cases h2
  | _ => rw [hd] at hu; simp [run_underlying (show P.underlying t = _ from hu), Und.agg]

theorem TdOk.sizeOf (h : TdOk P t d) : (sizeOf t).run P w = .ok d.size w := by
  obtain ⟨i, h1, h2, _⟩ := h.info
  unfold Go.sizeOf
  simp [run_typeInfo _ h1, h2]

theorem TdOk.typeInfo (h : TdOk P t d) : ∃ i : TypeInfo, (typeInfo t).run P w = .ok i w ∧ i.size = d.size ∧ i.bytes = d.bytes := by
  obtain ⟨i, h1, h2, h3, _⟩ := h.info
  exact ⟨i, run_typeInfo _ h1, h2, h3⟩

theorem TdOk.zeroValue (h : TdOk P t d) : ∃ z, (zeroValue t).run P w = .ok z w ∧ ∀ x : Ctx, d.zero.V x z := by
  obtain ⟨i, h1, _, _, z, h4, h5⟩ := h.info
  refine ⟨z, ?_, h5⟩
  unfold Go.zeroValue
  simp [run_typeInfo _ h1, h4]
end

theorem add_mk (b o n : Nat) : (⟨b, o, none⟩ : Addr).add n = ⟨b, o + n, none⟩ := by
  unfold Addr.add
  split
  · rename_i h; subst h; rfl
  · rfl

theorem cell_of_heap {w : World} {b o : Nat} {c : Array Value} {e : TypeId} {fr : Nat × Nat} (h : w.heap[b]? = some (.cells c e fr)) : w.cell? ⟨b, o, none⟩ = c[o]? := by
  simp [World.cell?, h]

/-- The value that a variable of so many cells holds. -/
def valueOf (agg : Bool) (cs : List Value) : Value := if agg then .agg cs.toArray else cs.headD undef

theorem V_valueOf {x : Ctx} {v : AVal} {cs : List Value} (h : v.C x cs) (hs : v.agg = false → cs.length = 1) : v.V x (valueOf v.agg cs) := by
  unfold AVal.V valueOf
  by_cases hv : v.agg = true
  · simp only [hv, if_true]; exact ⟨_, rfl, by simpa using h⟩
  · have := hs (by simpa using hv)
    obtain ⟨c, rfl⟩ := List.length_eq_one_iff.1 this
    simpa [hv] using h

theorem C_one {x : Ctx} {v : AVal} {c : Array Value} (hf : v.flat = true) (h : v.C x [.agg c]) : v.agg = true := by
  have := AVal.C.oneCell v _ h hf (.agg c) (by simp)
  cases this

theorem V_inv {x : Ctx} {v : AVal} {u : Value} (hf : v.flat = true) (h : v.V x u) : v.C x u.cells.toList ∧ (v.agg = true → ∃ c, u = .agg c) ∧ (v.agg = false → u.cells.toList = [u]) := by
  unfold AVal.V at h
  by_cases hv : v.agg = true
  · rw [if_pos hv] at h
    obtain ⟨c, rfl, h⟩ := h
    exact ⟨h, fun _ => ⟨c, rfl⟩, fun e => by rw [e] at hv; cases hv⟩
  · rw [if_neg hv] at h
    have hu : u.cells.toList = [u] := by
      cases u with
      | agg c => exact absurd (C_one hf h) hv
      | _ => rfl
    exact ⟨by rw [hu]; exact h, fun e => absurd e hv, fun _ => hu⟩

theorem all2_drop_get {c : Array Value} {pre mid post : List Value} (e : c.toList = pre ++ mid ++ post) (j : Nat) {v : Value} (h : mid[j]? = some v) : c[pre.length + j]? = some v := by
  rw [← Array.getElem?_toList, e, List.append_assoc, List.getElem?_append_right (by omega), show pre.length + j - pre.length = j by omega, List.getElem?_append_left (List.getElem?_eq_some_iff.1 h).1]
  exact h

/-- Reading a variable that lies in the middle of a row. -/
theorem run_loadVar_at {P : Program} {T : Tbl} (hT : TblOk P T) {t : TypeId} {d : TD} (ht : T t = some d) {w : World} {b o : Nat} {c : Array Value} {e : TypeId} {fr : Nat × Nat} (hb : w.heap[b]? = some (.cells c e fr))
    {mid : List Value} (hm : ∀ (j : Nat) v, mid[j]? = some v → c[o + j]? = some v) (hd : d.size = mid.length) (h1 : d.und.agg = false → mid.length = 1) :
    (loadVar t ⟨b, o, none⟩).run P w = .ok (valueOf d.und.agg mid) w := by
  have hok := hT t d ht
  unfold loadVar
  simp only [Sem.run_bind, hok.isAgg, Result.andThen_ok]
  by_cases ha : d.und.agg = true
  · have hl := run_loadCells_list (P := P) w ⟨b, o, none⟩ mid (fun j v hv => by rw [add_mk, cell_of_heap hb]; exact hm j v hv)
    simp only [ha, if_true, Sem.run_bind, hok.sizeOf, Result.andThen_ok, hd, hl, Sem.run_pure, valueOf]
  · obtain ⟨v, rfl⟩ := List.length_eq_one_iff.1 (h1 (by simpa using ha))
    have hc : w.cell? ⟨b, o, none⟩ = some v := by rw [cell_of_heap hb]; simpa using hm 0 v rfl
    simp [ha, run_load, hc, valueOf]

theorem setRow_heap_eq {w : World} {b : Nat} {c : Array Value} {e : TypeId} {fr : Nat × Nat} (h : w.heap[b]? = some (.cells c e fr)) (c' : Array Value) (b' : Nat) :
    (w.setRow b c').heap[b']? = if b' = b then some (.cells c' e fr) else w.heap[b']? := by
  by_cases hb : b' = b
  · subst hb; rw [if_pos rfl]; exact setRow_heap w _ c c' e fr h
  · rw [if_neg hb]
    simp only [World.setRow, Array.getElem?_modify]
    rw [if_neg (fun e => hb e.symm)]

/-- Writing a variable that lies in the middle of a row. -/
theorem run_storeVar_at {P : Program} {T : Tbl} (hT : TblOk P T) {t : TypeId} {d : TD} (ht : T t = some d) {w : World} {b : Nat} {c : Array Value} {e : TypeId} (hb : w.heap[b]? = some (.cells c e (0, 0)))
    {pre mid post : List Value} (hc : c.toList = pre ++ mid ++ post) {u : Value} (hd : d.size = u.cells.toList.length) (hm : mid.length = u.cells.toList.length) (h1 : ∀ v ∈ u.cells.toList, v.oneCell' = true) :
    (storeVar t ⟨b, pre.length, none⟩ u).run P w = .ok () (w.setRow b (pre ++ u.cells.toList ++ post).toArray) := by
  have hok := hT t d ht
  have hlen : c.size = pre.length + mid.length + post.length := by rw [← Array.length_toList, hc]; simp; omega
  unfold storeVar
  have hs := run_storeCells_at (P := P) b pre.length e u.cells.toList 0 c w hb (by rw [hlen]; omega) h1
  simp only [Sem.run_bind, hok.sizeOf, Result.andThen_ok]
  rw [if_neg (by rw [hd]; simp), hs]
  congr 3
  rw [hc]
  have e1 : List.take (pre.length + 0) (pre ++ mid ++ post) = pre := by simp
  have e2 : List.drop (pre.length + 0 + u.cells.toList.length) (pre ++ mid ++ post) = post := by
    rw [← hm, List.append_assoc, show pre.length + 0 + mid.length = pre.length + mid.length by omega, ← List.drop_drop, List.drop_left, List.drop_left]
  rw [e1, e2]
end Go.Am
