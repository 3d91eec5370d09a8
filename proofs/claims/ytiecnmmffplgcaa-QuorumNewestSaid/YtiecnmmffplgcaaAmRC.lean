/- The abstract machine, eighteenth part, at last: what is done with maps. -/
import Derived.Test.YtiecnmmffplgcaaAmRB
namespace Go.Am
section defs
variable {R : Type} (T : Tbl) (get : Nat → Option AObj)

def actMakeMap (base : Nat) (t : TypeId) (k : AVal → Ups → Option R) : Option R :=
  match undOf T t with
  | .map kt et => match tyOf T 12 kt, tyOf T 12 et, get base with
    | some K, some V, some .free => k (.map base) [(base, .map K V [] [] 0)]
    | _, _, _ => none
  | _ => none

/-- A map, a key, the zero of its values. -/
def mapK (t : TypeId) (v u : AVal) (k : (r : Nat) → (K V : Ty) → MD K V → K.den → V.den → Option R) : Option R :=
  match undOf T t with
  | .map kt et => match v with
    | .map r => match get r, T et with
      | some (.map K V m bs clk), some ed => match toDat K u, toDat V ed.zero with
        | some kd, some z => bif keyFits T K kt then k r K V (m, bs, clk) kd z else none
        | _, _ => none
      | _, _ => none
    | _ => none
  | _ => none

def actLookup (t : TypeId) (v u : AVal) (ok : Bool) (k : AVal → Ups → Option R) : Option R :=
  mapK T get t v u fun _ K V d kd z => bif ok
    then k (.tup (.cons (.dat true V ((mfind K V kd d.1).getD z)) (.cons (.dat true .bool (mfind K V kd d.1).isSome) .nil))) []
    else k (.dat true V ((mfind K V kd d.1).getD z)) []

def actMapUpdate (t : TypeId) (v u y : AVal) (k : AVal → Ups → Option R) : Option R :=
  mapK T get t v u fun r K V d kd _ => match toDat V y with
    | some yd => k (.tup .nil) [(r, .map K V (mput K V kd yd d).1 (mput K V kd yd d).2.1 (mput K V kd yd d).2.2)]
    | none => none

def actMapEntry (t : TypeId) (v u : AVal) (k : AVal → Ups → Option R) : Option R :=
  mapK T get t v u fun r K V d kd z => k (.tup (.cons (.dat true V (ment K V kd z d).1.1) (.cons (.dat true (.int .i64) (ment K V kd z d).1.2) .nil)))
    [(r, .map K V (ment K V kd z d).2.1 (ment K V kd z d).2.2.1 (ment K V kd z d).2.2.2)]

def actEntryStore (v s y : AVal) (k : AVal → Ups → Option R) : Option R :=
  match v with
  | .map r => match get r with
    | some (.map K V m bs clk) => match s, toDat V y with
      | .dat _ (.int _) n, some yd => match mstore K V n yd (m, bs, clk) with
        | some e => k (.tup .nil) [(r, .map K V e.1 e.2.1 e.2.2)]
        | none => none
      | _, _ => none
    | _ => none
  | _ => none

def actDelete (t : TypeId) (v u : AVal) (k : AVal → Ups → Option R) : Option R :=
  mapK T get t v u fun r K V d kd _ => k (.tup .nil) [(r, .map K V (mdel K V kd d).1 (mdel K V kd d).2.1 (mdel K V kd d).2.2)]
end defs

section
variable {P : Program} {T : Tbl} {ρ : Operand → Option AVal} {get : Nat → Option AObj} {a : Act} {w : World} {x : Ctx} {R : Type}

/-- The state behind a change of a map. -/
theorem goes_map (M : Mem x) (hh : x.h = fun b => w.heap[b]?) {r : Nat} {K V : Ty} {m m' : List (K.den × V.den)} {bs bs' : List Nat} {clk clk' : Nat} (h0 : x.σ[r]? = some (.map K V m bs clk)) {blk : Nat} {es es' : Array MapEntry}
    (h1 : x.μ r = some ⟨blk, 0, none⟩) (h2 : x.h blk = some (.map es clk)) (A : All2 (EntryRel x K V) m' es'.toList) (hb : es'.toList.map (·.born) = bs') :
    Goes x w (x.wrote blk (.map es' clk') r (.map K V m' bs' clk')) { w with heap := w.heap.setIfInBounds blk (.map es' clk') } := by
  have hobj := obj_of_get h0
  have hk : Keeps x (x.wrote blk (.map es' clk') r (.map K V m' bs' clk')) r := by
    refine ⟨fun g p c hp => ?_, fun g c1 hp => ?_, fun g lo len ex c hp => ?_, fun c hp => ?_⟩
    · unfold PtrRel; rw [wrote_obj h0, if_pos rfl]; trivial
    · unfold SlcRel; rw [wrote_obj h0, if_pos rfl]; trivial
    · unfold SubRel; rw [wrote_obj h0, if_pos rfl]; trivial
    · unfold MapRel at hp ⊢; rw [wrote_obj h0, if_pos rfl]; rw [hobj] at hp; exact hp
  have U0 : Upd0 x (x.wrote blk (.map es' clk') r (.map K V m' bs' clk')) r := {
    S := rfl
    obj := fun r' hr => by rw [wrote_obj h0, if_neg hr]
    μ := fun r' hr => rfl
    h := fun b hs hne => if_neg fun e => hne _ (by rw [hobj]; rfl) h1 e.symm
    keep := hk
    blk := fun a' hl' ha' => .inl ⟨a', by rw [hobj]; rfl, ha', rfl⟩ }
  have U : Upd x (x.wrote blk (.map es' clk') r (.map K V m' bs' clk')) r := ⟨U0, by
    rw [wrote_obj h0, if_pos rfl]
    exact ⟨blk, es', h1, if_pos rfl, A.mono fun _ _ h => ⟨DatV.congr (U0.hS M) h.1, DatV.congr (U0.hS M) h.2⟩, hb⟩⟩
  have hwb : w.heap[blk]? = some (.map es clk) := by have := hh ▸ h2; exact this
  refine U.goes M hh ?_ rfl rfl rfl (by simp)
  funext b
  show (if b = blk then _ else x.h b) = (w.heap.setIfInBounds blk _)[b]?
  have hs := MapKept.heap_set (o' := .map es' clk') hwb
  by_cases e : b = blk
  · rw [if_pos e, e, hs.1]
  · rw [if_neg e, hs.2 b e, hh]

/-- What is met of a map and a key. -/
theorem mapK_ok (H : Meets P T ρ get a w x) {t : TypeId} {v u : AVal} {vv vu : Value} (hv : v.V x vv) (hu : u.V x vu) {k : (r : Nat) → (K V : Ty) → MD K V → K.den → V.den → Option R} {z : R} (hk : mapK T get t v u k = some z) :
    ∃ r K V m bs clk kd zd kt et blk es ed, k r K V (m, bs, clk) kd zd = some z ∧ P.underlying t = some (.map kt et) ∧ keyFits T K kt = true ∧ (AVal.dat true K kd).V x vu ∧ T et = some ed ∧ toDat V ed.zero = some zd ∧
      x.σ[r]? = some (.map K V m bs clk) ∧ x.μ r = some ⟨blk, 0, none⟩ ∧ x.h blk = some (.map es clk) ∧ w.heap[blk]? = some (.map es clk) ∧ vv = .map (some blk) ∧ All2 (EntryRel x K V) m es.toList ∧ es.toList.map (·.born) = bs := by
  unfold mapK at hk
  split at hk
  case h_2 => cases hk
  rename_i kt et hut
  have ht : P.underlying t = some (.map kt et) := undOf_ok H.tbl hut (by simp)
  split at hk
  case h_2 => cases hk
  rename_i r
  split at hk
  case h_2 => cases hk
  rename_i K V m bs clk ed hg hed
  split at hk
  case h_2 => cases hk
  rename_i kd zd hkd hzd
  obtain ⟨hf, hk⟩ := cond_some hk
  have h0 := H.obj r _ hg
  have hobj := obj_of_get h0
  obtain ⟨c0, hc0, _, hr⟩ := (show (AVal.map r).C x [vv] from hv)
  simp only [List.cons.injEq, and_true] at hc0
  unfold MapRel at hr
  rw [hobj] at hr
  obtain ⟨a0, h1, e1⟩ := hr
  have hrel := H.mem.objs r
  rw [hobj] at hrel
  obtain ⟨b, es, h2, h3, h4, h5⟩ := hrel
  rw [h2] at h1; cases h1
  exact ⟨r, K, V, m, bs, clk, kd, zd, kt, et, b, es, ed, hk, ht, hf, toDat_V hkd hu, hed, hzd, h0, h2, h3, heap_at H h3, by rw [hc0, e1], h4, h5⟩

theorem midx_eq {K V : Ty} (k : K.den) : ∀ (l : List (K.den × V.den)) (i : Nat) {e : K.den × V.den}, midx K V k l = some i → l[i]? = some e → K.eqB k e.1 = true
  | [], i, _, h, _ => by cases h
  | e :: l, i, _, h, g => by
    simp only [midx] at h
    cases hk : K.eqB k e.1 with
    | true => rw [hk] at h; cases h; cases g; exact hk
    | false =>
      rw [hk] at h
      simp only [cond_false] at h
      split at h
      · rename_i j hj
        cases h
        exact midx_eq k l j hj (by simpa using g)
      · cases h

theorem idx_entry {K V : Ty} {m : List (K.den × V.den)} {es : List MapEntry} (A : All2 (EntryRel x K V) m es) {kd : K.den} {i : Nat} (h : midx K V kd m = some i) : ∃ e c, m[i]? = some e ∧ es[i]? = some c ∧ EntryRel x K V e c ∧ K.eqB kd e.1 = true := by
  have hl := midx_lt K V kd m i h
  have hl2 : i < es.length := A.1 ▸ hl
  exact ⟨_, _, List.getElem?_eq_getElem hl, List.getElem?_eq_getElem hl2, A.2 i _ _ (List.getElem?_eq_getElem hl) (List.getElem?_eq_getElem hl2), midx_eq kd m i h (List.getElem?_eq_getElem hl)⟩

theorem two_V {u : AVal} {b : Bool} {fv : Value} {fb : Bool} (h : u.V x fv) (e : fb = b) : (AVal.tup (.cons u (.cons (.dat true .bool b) .nil))).V x (.tuple #[fv, .bool fb]) := by
  subst e
  exact ⟨[fv, .bool fb], rfl, fv, [.bool fb], rfl, h, .bool fb, [], rfl, rfl, rfl⟩

theorem actLookup_ok (H : Meets P T ρ get a w x) {o : Oper} {t : TypeId} {vo uo : Operand} {ok : Bool} (ho : o.op = .lookup t vo uo ok) {v u : AVal} (hv : v.V x (a.eval vo)) (hu : u.V x (a.eval uo)) {k : AVal → Ups → Option R} {z : R}
    (hk : actLookup T get t v u ok k = some z) : ∃ u ups, k u ups = some z ∧ ActOk P o a w x u ups := by
  obtain ⟨r, K, V, m, bs, clk, kd, zd, kt, et, blk, es, ed, hk, ht, hf, hkd, hed, hzd, h0, h1, h2, h3, e1, A, hb⟩ := mapK_ok H hv hu hk
  obtain ⟨zv, hz, hzv⟩ := (H.tbl et ed hed).zeroValue (w := w)
  have hfind := find_ok (w := w) H.tbl hf hkd A
  have hcheck := key_check (w := w) H.tbl hf hkd es.isEmpty
  -- the value that is found
  obtain ⟨fv, fok, hrun, hfv, hfok⟩ : ∃ fv fok, (Instr.lookup t (a.eval vo) (a.eval uo) ok).run P w = .ok (if ok then .tuple #[fv, .bool fok] else fv) w ∧ (AVal.dat true V ((mfind K V kd m).getD zd)).V x fv ∧ fok = (mfind K V kd m).isSome := by
    unfold Instr.lookup
    simp only [Sem.run_bind, run_underlying ht, Result.andThen_ok, e1, MapKept.run_getObj_map h3, Sem.run_pure, hcheck, hfind]
    rw [mfind_idx]
    cases hi : midx K V kd m with
    | none => exact ⟨zv, false, by simp [hz], toDat_V hzd (hzv x), rfl⟩
    | some i =>
      obtain ⟨e, c, hm, hc, hr, hq⟩ := idx_entry A hi
      have hc' : es[i]? = some c := by simpa using hc
      refine ⟨c.val, true, ?_, ?_, by simp [hm]⟩
      · simp [hc']
      · simp only [Option.bind_some, hm, Option.map_some, Option.getD_some]
        exact hr.2
  have hex : (execOp a.eval o).run P w = .ok (.value (if ok then .tuple #[fv, .bool fok] else fv)) w := by
    simp only [execOp, ho, Sem.run_bind, hrun, Result.andThen_ok, Sem.run_pure]
  cases ok with
  | false => exact ⟨_, _, hk, ActOk.value H.mem H.h hex hfv⟩
  | true =>
    exact ⟨_, _, hk, ActOk.value H.mem H.h hex (two_V hfv hfok)⟩

/-- What is done to a map. -/
theorem map_done (H : Meets P T ρ get a w x) {o : Oper} {r : Nat} {K V : Ty} {m m' : List (K.den × V.den)} {bs bs' : List Nat} {clk clk' : Nat} (h0 : x.σ[r]? = some (.map K V m bs clk)) {blk : Nat} {es es' : Array MapEntry}
    (h1 : x.μ r = some ⟨blk, 0, none⟩) (h2 : x.h blk = some (.map es clk)) (A : All2 (EntryRel x K V) m' es'.toList) (hb : es'.toList.map (·.born) = bs')
    (hrun : (execOp a.eval o).run P w = .ok .skip { w with heap := w.heap.setIfInBounds blk (.map es' clk') }) : ActOk P o a w x (.tup .nil) [(r, .map K V m' bs' clk')] := by
  intro next Q hnext
  unfold Oper.wp
  rw [hrun, Oper.upon_skip]
  exact hnext undef _ _ (goes_map H.mem H.h h0 h1 h2 A hb) rfl (show (AVal.tup .nil).C _ [.tuple #[]] from ⟨[], rfl, rfl⟩)

theorem all2_set {α β : Type} {Q : α → β → Prop} {xs : List α} {ys : List β} (A : All2 Q xs ys) {i : Nat} {u : α} {v : β} (h : Q u v) : All2 Q (xs.set i u) (ys.set i v) := by
  refine ⟨by simp [A.1], fun j p q hp hq => ?_⟩
  rw [List.getElem?_set] at hp hq
  split at hp
  · rename_i e
    subst e
    rw [if_pos rfl] at hq
    split at hp
    · cases hp
      split at hq
      · cases hq; exact h
      · cases hq
    · cases hp
  · rename_i e
    rw [if_neg e] at hq
    exact A.2 _ _ _ hp hq
theorem all2_push {α β : Type} {Q : α → β → Prop} {xs : List α} {ys : List β} (A : All2 Q xs ys) {u : α} {v : β} (h : Q u v) : All2 Q (xs ++ [u]) (ys ++ [v]) := by
  refine ⟨by simp [A.1], fun j p q hp hq => ?_⟩
  rw [List.getElem?_append] at hp hq
  rw [A.1] at hp
  split at hp
  · rename_i e; rw [if_pos e] at hq; exact A.2 _ _ _ hp hq
  · rename_i e
    rw [if_neg e] at hq
    cases hj : j - ys.length with
    | zero => rw [hj] at hp hq; cases hp; cases hq; exact h
    | succ n => rw [hj] at hp; cases hp
theorem all2_erase {α β : Type} {Q : α → β → Prop} : ∀ {xs : List α} {ys : List β} (_ : All2 Q xs ys) (i : Nat), All2 Q (xs.eraseIdx i) (ys.eraseIdx i)
  | [], ys, A, i => by
    obtain rfl : ys = [] := List.length_eq_zero_iff.1 A.1.symm
    simpa using A
  | x :: xs, ys, A, i => by
    obtain ⟨y, ys, rfl, h, A⟩ := A.cons_inv
    cases i with
    | zero => exact A
    | succ i => exact .cons h (all2_erase A i)

theorem all2_modify {α β : Type} {Q : α → β → Prop} {xs : List α} {ys : List β} (A : All2 Q xs ys) {i : Nat} {u : α} {c : β} (hc : ys[i]? = some c) {f : β → β} (h : Q u (f c)) : All2 Q (xs.set i u) (ys.modify i f) := by
  refine ⟨by simp [A.1], fun j p q hp hq => ?_⟩
  rw [List.getElem?_set] at hp
  rw [List.getElem?_modify] at hq
  split at hp
  · rename_i e
    subst e
    rw [hc] at hq
    split at hp
    · cases hp
      simp at hq
      subst hq; exact h
    · cases hp
  · rename_i e
    have : ys[j]? = some q := by
      cases hj : ys[j]? with
      | none => rw [hj] at hq; cases hq
      | some y => rw [hj] at hq; simp [e] at hq; rw [hq]
    exact A.2 _ _ _ hp this

theorem actMapUpdate_ok (H : Meets P T ρ get a w x) {o : Oper} {t : TypeId} {vo uo yo : Operand} (ho : o.op = .mapUpdate t vo uo yo) {v u y : AVal} (hv : v.V x (a.eval vo)) (hu : u.V x (a.eval uo)) (hy : y.V x (a.eval yo)) {k : AVal → Ups → Option R} {z : R}
    (hk : actMapUpdate T get t v u y k = some z) : ∃ u ups, k u ups = some z ∧ ActOk P o a w x u ups := by
  obtain ⟨r, K, V, m, bs, clk, kd, zd, kt, et, blk, es, ed, hk, ht, hf, hkd, hed, hzd, h0, h1, h2, h3, e1, A, hb⟩ := mapK_ok H hv hu hk
  split at hk
  case h_2 => cases hk
  rename_i yd hyd
  refine ⟨_, _, hk, ?_⟩
  have hyv := toDat_V hyd hy
  have hfind := find_ok (w := w) H.tbl hf hkd A
  have hcheck := key_check (w := w) H.tbl hf hkd false
  have hset := fun o' => MapKept.run_setObj_map (P := P) (w := w) o' h3
  unfold mput
  cases hi : midx K V kd m with
  | none =>
    refine map_done H h0 h1 h2 (es' := es.push { key := a.eval uo, val := a.eval yo, born := clk }) (clk' := clk + 1) ?_ ?_ ?_
    · simp only [Array.toList_push]; exact all2_push A ⟨hkd, hyv⟩
    · simp [hb]
    · simp only [execOp, ho, Instr.mapUpdate, Sem.run_bind, run_underlying ht, Result.andThen_ok, e1, MapKept.run_getObj_map h3, hcheck, hfind, hi, Option.bind_none, hset, Sem.run_pure]
  | some i =>
    obtain ⟨e, c, hm, hc, hr, hq⟩ := idx_entry A hi
    have hc' : es[i]? = some c := by simpa using hc
    have hsame : c.key = a.eval uo := by
      have hk1 : (AVal.dat true K e.1).V x (a.eval uo) := by rw [← key_same hf hq]; exact hkd
      exact key_val hf hr.1 hk1
    have hstay : (Instr.keyThatStays c.key (a.eval uo)).run P w = .ok (a.eval uo) w := by
      unfold Instr.keyThatStays
      rw [hsame, key_bits hf hkd]; rfl
    refine map_done H h0 h1 h2 (es' := es.modify i fun e => { e with key := a.eval uo, val := a.eval yo }) (clk' := clk) ?_ ?_ ?_
    · rw [Array.toList_modify]
      exact all2_modify A hc ⟨hkd, hyv⟩
    · rw [Array.toList_modify, ← hb]
      apply List.ext_getElem?
      intro j
      simp only [List.getElem?_map, List.getElem?_modify]
      cases es.toList[j]? <;> simp
      split <;> rfl
    · simp only [execOp, ho, Instr.mapUpdate, Sem.run_bind, run_underlying ht, Result.andThen_ok, e1, MapKept.run_getObj_map h3, hcheck, hfind, hi, Option.bind_some, hc, Option.map_some, hc', Option.getD_some, hstay, hset, Sem.run_pure]

theorem set_same {α : Type} {l : List α} {i : Nat} {e : α} (h : l[i]? = some e) : l.set i e = l := by
  apply List.ext_getElem?
  intro j
  rw [List.getElem?_set]
  split
  · rename_i ij
    subst ij
    rw [h]
    split
    · rfl
    · rename_i g; rw [List.getElem?_eq_none (by omega)] at h; cases h
  · rfl
theorem pair_V {V : Ty} {vd : V.den} {n : Int} {fv : Value} {fn : Value} (h : (AVal.dat true V vd).V x fv) (e : fn = .int .i64 n) : (AVal.tup (.cons (.dat true V vd) (.cons (.dat true (.int .i64) n) .nil))).V x (.tuple #[fv, fn]) := by
  subst e
  exact ⟨[fv, .int .i64 n], rfl, fv, [.int .i64 n], rfl, h, .int .i64 n, [], rfl, rfl, rfl⟩

theorem actMapEntry_ok (H : Meets P T ρ get a w x) {o : Oper} {t : TypeId} {vo uo : Operand} (ho : o.op = .mapEntry t vo uo) {v u : AVal} (hv : v.V x (a.eval vo)) (hu : u.V x (a.eval uo)) {k : AVal → Ups → Option R} {z : R}
    (hk : actMapEntry T get t v u k = some z) : ∃ u ups, k u ups = some z ∧ ActOk P o a w x u ups := by
  obtain ⟨r, K, V, m, bs, clk, kd, zd, kt, et, blk, es, ed, hk, ht, hf, hkd, hed, hzd, h0, h1, h2, h3, e1, A, hb⟩ := mapK_ok H hv hu hk
  refine ⟨_, _, hk, ?_⟩
  have hfind := find_ok (w := w) H.tbl hf hkd A
  have hcheck := key_check (w := w) H.tbl hf hkd false
  have hset := fun o' => MapKept.run_setObj_map (P := P) (w := w) o' h3
  have done : ∀ (m' : List (K.den × V.den)) (bs' : List Nat) (clk' : Nat) (es' : Array MapEntry) (val : Value) (vd : V.den) (n : Nat), All2 (EntryRel x K V) m' es'.toList → es'.toList.map (·.born) = bs' → (AVal.dat true V vd).V x val →
      (execOp a.eval o).run P w = .ok (.value (.tuple #[val, goInt n])) { w with heap := w.heap.setIfInBounds blk (.map es' clk') } →
      ActOk P o a w x (.tup (.cons (.dat true V vd) (.cons (.dat true (.int .i64) (n : Int)) .nil))) [(r, .map K V m' bs' clk')] := by
    intro m' bs' clk' es' val vd n A' hb' hval hrun next Q hnext
    unfold Oper.wp
    rw [hrun, Oper.upon_value]
    have G := goes_map (clk' := clk') H.mem H.h h0 h1 h2 A' hb'
    exact hnext _ _ _ G rfl (pair_V (DatV.congr (fun p b hs => G.S p b hs) hval) rfl)
  unfold ment
  cases hi : midx K V kd m with
  | none =>
    obtain ⟨zv, hz, hzv⟩ := (H.tbl et ed hed).zeroValue (w := w)
    refine done _ _ _ (es.push { key := a.eval uo, val := zv, born := clk }) zv zd clk ?_ ?_ (toDat_V hzd (hzv x)) ?_
    · simp only [Array.toList_push]; exact all2_push A ⟨hkd, toDat_V hzd (hzv x)⟩
    · simp [hb]
    · simp only [execOp, ho, Instr.mapEntry, Sem.run_bind, run_underlying ht, Result.andThen_ok, e1, MapKept.run_getObj_map h3, hcheck, hfind, hi, Option.bind_none, hz, hset, Sem.run_pure]
  | some i =>
    obtain ⟨e, c, hm, hc, hr, hq⟩ := idx_entry A hi
    have hc' : es[i]? = some c := by simpa using hc
    have hsame : c.key = a.eval uo := by
      have hk1 : (AVal.dat true K e.1).V x (a.eval uo) := by rw [← key_same hf hq]; exact hkd
      exact key_val hf hr.1 hk1
    have hstay : (Instr.keyThatStays c.key (a.eval uo)).run P w = .ok (a.eval uo) w := by
      unfold Instr.keyThatStays
      rw [hsame, key_bits hf hkd]; rfl
    have hbi : bs.getD i 0 = c.born := by rw [← hb, List.getD_eq_getElem?_getD, List.getElem?_map, hc]; rfl
    simp only [hm]
    rw [hbi]
    refine done _ _ _ (es.modify i fun e => { e with key := a.eval uo }) c.val e.2 c.born ?_ ?_ hr.2 ?_
    · rw [Array.toList_modify]
      have := all2_modify (u := e) (f := fun e => { e with key := a.eval uo }) A hc ⟨by rw [← hsame]; exact hr.1, hr.2⟩
      rw [show m.set i e = m from set_same hm] at this
      exact this
    · rw [Array.toList_modify, ← hb]
      apply List.ext_getElem?
      intro j
      simp only [List.getElem?_map, List.getElem?_modify]
      cases es.toList[j]? <;> simp
      split <;> rfl
    · simp only [execOp, ho, Instr.mapEntry, Sem.run_bind, run_underlying ht, Result.andThen_ok, e1, MapKept.run_getObj_map h3, hcheck, hfind, hi, Option.bind_some, hc, Option.map_some, hc', Option.getD_some, hstay, hset, Sem.run_pure]

theorem map_erase {α β : Type} (f : α → β) : ∀ (l : List α) (i : Nat), (l.eraseIdx i).map f = (l.map f).eraseIdx i
  | [], _ => rfl
  | _ :: _, 0 => rfl
  | x :: l, i + 1 => by simp [map_erase f l i]

theorem actMakeMap_ok (H : Meets P T ρ get a w x) {o : Oper} {t : TypeId} (ho : o.op = .makeMap t none) {base : Nat} {k : AVal → Ups → Option R} {z : R}
    (hk : actMakeMap T get base t k = some z) : ∃ u ups, k u ups = some z ∧ ActOk P o a w x u ups := by
  unfold actMakeMap at hk
  split at hk
  case h_2 => cases hk
  rename_i kt et hut
  split at hk
  case h_2 => cases hk
  rename_i K V hK hV hg
  refine ⟨_, _, hk, ?_⟩
  intro next Q hnext
  have h0 := H.obj base _ hg
  have G := goes_made (ob := .map K V [] [] 0) H.mem H.h h0 (.map #[] 0) (fun _ _ => ⟨w.heap.size, #[], if_pos rfl, if_pos rfl, All2.nil, rfl⟩)
  unfold Oper.wp
  have hrun : (execOp a.eval o).run P w = .ok (.value (.map (some w.heap.size))) (w.alloc (.map #[] 0)) := by
    simp only [execOp, ho, Instr.makeMap, Option.map_none, Sem.run_bind, Sem.run_pure, Result.andThen_ok]
    rfl
  rw [hrun, Oper.upon_value]
  refine hnext _ _ _ G rfl (show (AVal.map base).C _ _ from ⟨_, rfl, rfl, ?_⟩)
  unfold MapRel
  rw [made_obj h0, if_pos rfl]
  exact ⟨_, if_pos rfl, rfl⟩

theorem actEntryStore_ok (H : Meets P T ρ get a w x) {o : Oper} {t : TypeId} {vo so yo : Operand} (ho : o.op = .entryStore t vo so yo) {v s y : AVal} (hv : v.V x (a.eval vo)) (hs : s.V x (a.eval so)) (hy : y.V x (a.eval yo)) {k : AVal → Ups → Option R} {z : R}
    (hk : actEntryStore get v s y k = some z) : ∃ u ups, k u ups = some z ∧ ActOk P o a w x u ups := by
  unfold actEntryStore at hk
  split at hk
  case h_2 => cases hk
  rename_i r
  split at hk
  case h_2 => cases hk
  rename_i K V m bs clk hg
  split at hk
  case h_2 => cases hk
  rename_i kd n yd hyd
  split at hk
  case h_2 => cases hk
  rename_i e he
  refine ⟨_, _, hk, ?_⟩
  have h0 := H.obj r _ hg
  have hobj := obj_of_get h0
  obtain ⟨c0, hc0, _, hr⟩ := (show (AVal.map r).C x [a.eval vo] from hv)
  simp only [List.cons.injEq, and_true] at hc0
  unfold MapRel at hr
  rw [hobj] at hr
  obtain ⟨a0, h1, e1⟩ := hr
  have hrel := H.mem.objs r
  rw [hobj] at hrel
  obtain ⟨b, es, h2, h3, A, hb⟩ := hrel
  rw [h2] at h1; cases h1
  have hwb := heap_at H h3
  have hyv := toDat_V hyd hy
  have hsv := V_int.1 hs
  unfold mstore at he
  simp only at he
  split at he
  case h_2 => cases he
  rename_i i hi
  cases he
  -- the same entry, in the map as it lies
  have hi2 : es.findIdx? (fun e => (e.born : Int) == n) = some i := by
    rw [← hb, List.findIdx?_map] at hi
    rw [show es.findIdx? (fun e => (e.born : Int) == n) = es.toList.findIdx? (fun e => (e.born : Int) == n) by cases es; simp]
    exact hi
  obtain ⟨hlt, hbi⟩ : ∃ h : i < es.size, True := by
    have := Array.findIdx?_eq_some_iff_getElem.1 hi2
    exact ⟨this.1, trivial⟩
  have hc : es.toList[i]? = some es[i] := by simp [hlt]
  obtain ⟨p, hp⟩ : ∃ p, m[i]? = some p := ⟨_, List.getElem?_eq_getElem (by rw [A.1]; simpa using hlt)⟩
  have hr2 := A.2 i p _ hp hc
  have hrun : (execOp a.eval o).run P w = .ok .skip { w with heap := w.heap.setIfInBounds b (.map (es.modify i fun e => { e with val := a.eval yo }) clk) } := by
    simp only [execOp, ho, Instr.entryStore, hc0, e1, Sem.run_bind, Sem.run_pure, Result.andThen_ok, MapKept.run_getObj_map hwb, hsv, asInt, asIntOf, Sem.run_map, hi2, MapKept.run_setObj_map _ hwb]
  have hm' : m.modify i (fun e => (e.1, yd)) = m.set i (p.1, yd) := by
    apply List.ext_getElem?
    intro j
    rw [List.getElem?_modify, List.getElem?_set]
    split
    · rename_i ij
      subst ij
      rw [hp]
      rw [if_pos (by rw [A.1]; simpa using hlt)]
      simp
    · rename_i ij
      cases m[j]? <;> simp [ij]
  simp only [hm']
  refine map_done H h0 h2 h3 ?_ ?_ hrun
  · rw [Array.toList_modify]
    exact all2_modify A hc ⟨hr2.1, hyv⟩
  · rw [Array.toList_modify, ← hb]
    apply List.ext_getElem?
    intro j
    simp only [List.getElem?_map, List.getElem?_modify]
    cases es.toList[j]? <;> simp
    split <;> rfl

theorem actDelete_ok (H : Meets P T ρ get a w x) {o : Oper} {t t' : TypeId} {vo uo : Operand} (ho : o.op = .call { callee := .builtin .delete, args := #[vo, uo], argTypes := #[t, t'] }) {v u : AVal} (hv : v.V x (a.eval vo)) (hu : u.V x (a.eval uo)) {k : AVal → Ups → Option R} {z : R}
    (hk : actDelete T get t v u k = some z) : ∃ u ups, k u ups = some z ∧ ActOk P o a w x u ups := by
  obtain ⟨r, K, V, m, bs, clk, kd, zd, kt, et, blk, es, ed, hk, ht, hf, hkd, hed, hzd, h0, h1, h2, h3, e1, A, hb⟩ := mapK_ok H hv hu hk
  refine ⟨_, _, hk, ?_⟩
  have hfind := find_ok (w := w) H.tbl hf hkd A
  have hcheck := key_check (w := w) H.tbl hf hkd es.isEmpty
  have hset := fun o' => MapKept.run_setObj_map (P := P) (w := w) o' h3
  have done : ∀ (m' : List (K.den × V.den)) (bs' : List Nat) (es' : Array MapEntry), All2 (EntryRel x K V) m' es'.toList → es'.toList.map (·.born) = bs' →
      (Builtin.delete_ #[t, t'] o.type #[a.eval vo, a.eval uo]).run P w = .ok (.tuple #[]) { w with heap := w.heap.setIfInBounds blk (.map es' clk) } →
      ActOk P o a w x (.tup .nil) [(r, .map K V m' bs' clk)] := by
    intro m' bs' es' A' hb' hrun next Q hnext
    unfold Oper.wp
    simp only [execOp, ho, resolve, invoke, builtin, Sem.run_bind, Sem.run_pure, Result.andThen_ok, List.map_toArray, List.map_cons, List.map_nil, hrun, Oper.upon_value]
    exact hnext _ _ _ (goes_map H.mem H.h h0 h1 h2 A' hb') rfl (show (AVal.tup .nil).C _ [.tuple #[]] from ⟨[], rfl, rfl⟩)
  unfold mdel
  cases hi : midx K V kd m with
  | none =>
    refine done _ _ es A hb ?_
    simp [Builtin.delete_, run_underlying ht, e1, MapKept.run_getObj_map h3, hcheck, hfind, hi, hset]
  | some i =>
    obtain ⟨e, c, hm, hc, hr, hq⟩ := idx_entry A hi
    have hc' : es[i]? = some c := by simpa using hc
    have hlt : i < es.size := by
      rcases Nat.lt_or_ge i es.size with h | h
      · exact h
      · rw [Array.getElem?_eq_none h] at hc'; cases hc'
    refine done _ _ (es.eraseIdxIfInBounds i) ?_ ?_ ?_
    · simp only [Array.eraseIdxIfInBounds, hlt, dite_true, Array.toList_eraseIdx]
      exact all2_erase A i
    · simp only [Array.eraseIdxIfInBounds, hlt, dite_true, Array.toList_eraseIdx, ← hb]
      exact map_erase _ _ _
    · simp [Builtin.delete_, run_underlying ht, e1, MapKept.run_getObj_map h3, hcheck, hfind, hi, hc', hset]

def capsOf : List AVal → AVal
  | [] => .nil
  | v :: l => .cons v (capsOf l)

theorem capsOf_C : ∀ {l : List AVal} {vs : List Value}, All2 (fun v u => v.V x u) l vs → (capsOf l).C x vs
  | [], vs, A => List.length_eq_zero_iff.1 A.1.symm
  | v :: l, vs, A => by
    obtain ⟨u, us, rfl, h, A⟩ := A.cons_inv
    exact ⟨u, us, rfl, h, capsOf_C A⟩

theorem mapM_V (H : Meets P T ρ get a w x) : ∀ {l : List Operand} {vs : List AVal}, l.mapM ρ = some vs → All2 (fun v u => v.V x u) vs (l.map a.eval)
  | [], vs, h => by simp at h; subst h; exact .nil
  | o :: l, vs, h => by
    rw [List.mapM_cons] at h
    cases ho : ρ o with
    | none => rw [ho] at h; cases h
    | some v =>
      rw [ho] at h
      cases hl : l.mapM ρ with
      | none => rw [hl] at h; cases h
      | some us =>
        rw [hl] at h
        obtain rfl : v :: us = vs := by simpa using h
        exact .cons (H.val _ _ ho) (mapM_V H hl)

theorem actMakeFunc_ok (H : Meets P T ρ get a w x) {o : Oper} {f : FuncId} {cs : Array Operand} (ho : o.op = .makeFunc (.func f) #[] cs) {vs : List AVal} (hvs : cs.toList.mapM ρ = some vs) {k : AVal → Ups → Option R} {z : R}
    (hk : k (.fn f (capsOf vs)) [] = some z) : ∃ u ups, k u ups = some z ∧ ActOk P o a w x u ups := by
  refine ⟨_, _, hk, ActOk.value (u := .func (.func f) #[] (cs.map a.eval)) H.mem H.h ?_ ?_⟩
  · simp [execOp, ho, Instr.makeFunc]
  · refine (show (AVal.fn f (capsOf vs)).C x [_] from ⟨cs.toList.map a.eval, ?_, capsOf_C (mapM_V H hvs)⟩)
    have : (capsOf vs).isTup = false := by cases vs <;> rfl
    rw [this]
    show [Value.func (.func f) #[] (cs.map a.eval)] = [Value.func (.func f) #[] (cs.toList.map a.eval).toArray]
    rw [← Array.toList_map]

theorem actMakeBound_ok (H : Meets P T ρ get a w x) {o : Oper} {f : FuncId} {cs : Array Operand} (ho : o.op = .makeFunc (.func f) cs #[]) {vs : List AVal} (hvs : cs.toList.mapM ρ = some vs) {k : AVal → Ups → Option R} {z : R}
    (hk : k (.fn f (.tup (capsOf vs))) [] = some z) : ∃ u ups, k u ups = some z ∧ ActOk P o a w x u ups := by
  refine ⟨_, _, hk, ActOk.value (u := .func (.func f) (cs.map a.eval) #[]) H.mem H.h ?_ ?_⟩
  · simp [execOp, ho, Instr.makeFunc]
  · refine (show (AVal.fn f (.tup (capsOf vs))).C x [_] from ⟨[.tuple (cs.toList.map a.eval).toArray], ?_, cs.toList.map a.eval, rfl, capsOf_C (mapM_V H hvs)⟩)
    show [Value.func (.func f) (cs.map a.eval) #[]] = [Value.func (.func f) (cs.toList.map a.eval).toArray #[]]
    rw [← Array.toList_map]
end
end Go.Am
