/- The abstract machine, eighteenth part, still more: ranges over maps; steps of which there is more than one outcome. -/
import Derived.Test.YtiecnmmffplgcaaAmRC
import Derived.Maps.RangeRun
namespace Go.Am

/-! ### Calls that change nothing -/
noncomputable def roK {R : Type} (p : Prop) (y : Option R) : Option R := open Classical in if p then y else none
theorem roK_of {R : Type} {p : Prop} {y : Option R} (h : p) : roK p y = y := by unfold roK; rw [if_pos h]
theorem roK_some {R : Type} {p : Prop} {y : Option R} {z : R} (h : roK p y = some z) : p ∧ y = some z := by
  unfold roK at h
  split at h
  · rename_i hp; exact ⟨hp, h⟩
  · cases h

def sameUps (get : Nat → Option AObj) : Ups → Prop
  | [] => True
  | p :: l => get p.1 = some p.2 ∧ sameUps get l

/-- Told as one that changes nothing: that is asked. -/
noncomputable def roCall {R : Type} (an : Ann) (get : Nat → Option AObj) (k : AVal → Ups → Option R) (v : AVal) (ups : Ups) : Option R :=
  bif Nat.beq an.mode 2 then roK (sameUps get ups) (k v []) else k v ups

theorem sameUps_eq {get : Nat → Option AObj} {σ : List AObj} (hobj : ∀ r ob, get r = some ob → σ[r]? = some ob) : ∀ ups : Ups, sameUps get ups → applyUps σ ups = σ
  | [], _ => rfl
  | p :: l, h => by
    have h1 := hobj _ _ h.1
    show applyUps (σ.set p.1 p.2) l = σ
    rw [set_same h1]
    exact sameUps_eq hobj l h.2

theorem roCall_ok {P : Program} {o : Oper} {a : Act} {w : World} {x : Ctx} {R : Type} {an : Ann} {get : Nat → Option AObj} (hobj : ∀ r ob, get r = some ob → x.σ[r]? = some ob) {k : AVal → Ups → Option R} {z : R} {v : AVal} {ups : Ups}
    (hk : roCall an get k v ups = some z) (h : ActOk P o a w x v ups) : ∃ u ups, k u ups = some z ∧ ActOk P o a w x u ups := by
  unfold roCall at hk
  cases hm : Nat.beq an.mode 2 with
  | false => rw [hm] at hk; exact ⟨_, _, hk, h⟩
  | true =>
    rw [hm] at hk
    obtain ⟨hs, hk⟩ := roK_some hk
    refine ⟨_, _, hk, fun next Q hn => h next Q fun u w' x' G hσ hv => hn u w' x' G ?_ hv⟩
    rw [hσ, sameUps_eq hobj ups hs]; rfl

/-! ### As plain data -/

/-- All answers alike: that one. -/
noncomputable def allEq {R : Type} : List (Option R) → Option R
  | [] => none
  | y :: l => open Classical in if ∀ y' ∈ l, y' = y then y else none

noncomputable def fork {R : Type} (y y' : Option R) : Option R := allEq [y, y']

theorem allEq_mem {R : Type} {l : List (Option R)} {z : R} (h : allEq l = some z) : ∀ y ∈ l, y = some z := by
  cases l with
  | nil => cases h
  | cons y l =>
    simp only [allEq] at h
    split at h
    · rename_i hl
      subst h
      intro y hy
      rcases List.mem_cons.1 hy with e | hy
      · exact e
      · exact hl y hy
    · cases h
theorem allEq_all {R : Type} {l : List (Option R)} {y : Option R} (hl : l ≠ []) (h : ∀ y' ∈ l, y' = y) : allEq l = y := by
  cases l with
  | nil => exact absurd rfl hl
  | cons y0 l =>
    simp only [allEq]
    have h0 := h y0 (by simp)
    rw [if_pos fun y' hy => by rw [h y' (by simp [hy]), h0], h0]
theorem fork_one {R : Type} {y y' : Option R} {z : R} (h : fork y y' = some z) : y = some z := allEq_mem h y (by simp)
theorem fork_two {R : Type} {y y' : Option R} {z : R} (h : fork y y' = some z) : y' = some z := allEq_mem h y' (by simp)
theorem fork_self {R : Type} (y : Option R) : fork y y = y := allEq_all (by simp) (by simp)

/-- The entries that a range has not come to. -/
def mleft {A : Type} (seen : List Nat) : List A → List Nat → List (Nat × A)
  | e :: l, b :: bs => bif seen.contains b then mleft seen l bs else (b, e) :: mleft seen l bs
  | _, _ => []

def allLt (n : Nat) : List Nat → Bool
  | [] => true
  | b :: bs => Nat.blt b n && allLt n bs

/-- The next one of a range: any of those that are left. -/
noncomputable def nextP {R A : Type} (m : List A) (bs seen : List Nat) (over : Option R) (go : Nat → A → Option R) : Option R :=
  match mleft seen m bs with
  | [] => over
  | p :: l => allEq ((p :: l).map fun q => go q.1 q.2)

def mstamp {A : Type} : List A → List Nat → Nat → Option A
  | e :: l, b :: bs, s => bif Nat.beq b s then some e else mstamp l bs s
  | _, _, _ => none

/-- The entry that a range is at. -/
def entP {R A : Type} (m : List A) (bs seen : List Nat) (k : A → Option R) : Option R :=
  match seen with
  | s :: _ => match mstamp m bs s with
    | some e => k e
    | none => none
  | [] => none

section defs
variable {R : Type} (T : Tbl) (get : Nat → Option AObj)

def actRange (base : Nat) (t : TypeId) (v : AVal) (k : AVal → Ups → Option R) : Option R :=
  match undOf T t with
  | .map _ _ => match v with
    | .map r => match get r, get base with
      | some (.map _ _ _ _ clk), some .free => k (.map base) [(base, .iter (.map r) clk [])]
      | _, _ => none
    | _ => none
  | _ => none

def actEntry (v : AVal) (k : AVal → Ups → Option R) : Option R :=
  match v with
  | .map ri => match get ri with
    | some (.iter (.map r) since seen) => match get r with
      | some (.map K V m bs clk) => bif Nat.beq clk since then entP m bs seen (fun e => k (.tup (.cons (.dat true K e.1) (.cons (.dat true V e.2) .nil))) []) else none
      | _ => none
    | _ => none
  | _ => none

noncomputable def wildNext (v : AVal) (k : AVal → Ups → Option R) : Option R :=
  match v with
  | .map ri => match get ri with
    | some (.iter (.map r) since seen) => match get r with
      | some (.map K V m bs clk) => bif Nat.beq clk since && allLt since bs then
          nextP m bs seen (k (.tup (.cons (.dat true .bool false) .nil)) []) (fun b e => k (.tup (.cons (.dat true .bool true) (.cons (.dat true K e.1) (.cons (.dat true V e.2) .nil)))) [(ri, .iter (.map r) since (b :: seen))])
        else none
      | _ => none
    | _ => none
  | _ => none

/-- Is that slice nil? One that has elements is not; one that has none may be. -/
noncomputable def wildNil (op : BinOp) (t : TypeId) (v : AVal) (k : AVal → Option R) : Option R :=
  match undOf T t with
  | .slice _ => match v with
    | .dat _ (.slice _) xs => bif List.isEmpty xs then fork (binEq op true k) (binEq op false k) else binEq op false k
    | .slc r g => match get r with
      | some (.arr g' _ xs) => bif Nat.beq g g' then (bif List.isEmpty xs then fork (binEq op true k) (binEq op false k) else binEq op false k) else none
      | _ => none
    | _ => none
  | _ => none

/-- A step of which there is more than one outcome. -/
noncomputable def wildK (op : Op) (ρ : Operand → Option AVal) (k : AVal → Ups → Option R) : Option R :=
  match op with
  | .next x false => match ρ x with | some v => wildNext get v k | none => none
  | .binOp op t x y _ => match ρ x with | some u => bif isNilC y then wildNil T get op t u (fun v => k v []) else none | none => none
  | _ => none
end defs

/-- What may come of it. -/
def WildOk (P : Program) (o : Oper) (a : Act) (w : World) (x : Ctx) (outs : AVal → Ups → Prop) : Prop :=
  ∀ (next : Act → World → Prop) (Q : Exit → Act → World → Prop),
    (∀ v ups u w' x', outs v ups → Goes x w x' w' → x'.σ = applyUps x.σ ups → v.V x' u → next (a.put o.dst u) w') → o.wp P a w next Q

section
variable {P : Program} {T : Tbl} {ρ : Operand → Option AVal} {get : Nat → Option AObj} {a : Act} {w : World} {x : Ctx} {R : Type}

theorem WildOk.of {o : Oper} {v : AVal} {ups : Ups} {outs : AVal → Ups → Prop} (ho : outs v ups) (h : ActOk P o a w x v ups) : WildOk P o a w x outs :=
  fun next Q hn => h next Q fun u w' x' => hn v ups u w' x' ho

/-- What is met of an iterator and its map. -/
theorem iter_at (H : Meets P T ρ get a w x) {ri r since : Nat} {seen : List Nat} {K V : Ty} {m : List (K.den × V.den)} {bs : List Nat} {clk : Nat} {vv : Value}
    (hv : (AVal.map ri).V x vv) (hi : get ri = some (.iter (.map r) since seen)) (hg : get r = some (.map K V m bs clk)) :
    ∃ bi bm es, vv = .pointer (some ⟨bi, 0, none⟩) ∧ x.σ[ri]? = some (.iter (.map r) since seen) ∧ x.μ ri = some ⟨bi, 0, none⟩ ∧ w.heap[bi]? = some (.mapIter (some bm) since seen.reverse.toArray since) ∧ (AVal.map r).C x [.map (some bm)] ∧
      w.heap[bm]? = some (.map es clk) ∧ All2 (EntryRel x K V) m es.toList ∧ es.toList.map (·.born) = bs := by
  have h0 := H.obj ri _ hi
  have hobj := obj_of_get h0
  have h0' := H.obj r _ hg
  have hobj' := obj_of_get h0'
  have hrel := H.mem.objs ri
  rw [hobj] at hrel
  obtain ⟨bi, bm, h1, h2, h3, h4⟩ := hrel
  obtain ⟨c0, hc0, _, hr⟩ := (show (AVal.map ri).C x [vv] from hv)
  simp only [List.cons.injEq, and_true] at hc0
  unfold MapRel at hr
  rw [hobj] at hr
  obtain ⟨a0, g1, e1⟩ := hr
  rw [h1] at g1; cases g1
  have hrel' := H.mem.objs r
  rw [hobj'] at hrel'
  obtain ⟨b, es, k1, k2, k3, k4⟩ := hrel'
  obtain ⟨c1, hc1, _, hr1⟩ := h3
  simp only [List.cons.injEq, and_true] at hc1
  unfold MapRel at hr1
  rw [hobj'] at hr1
  obtain ⟨a1, g2, e2⟩ := hr1
  rw [k1] at g2; cases g2
  rw [e2] at hc1
  cases hc1
  exact ⟨bi, b, es, hc0.trans e1, h0, h1, heap_at H h2, ⟨_, rfl, rfl, by unfold MapRel; rw [hobj']; exact ⟨_, k1, rfl⟩⟩, heap_at H k2, k3, k4⟩

theorem actRange_ok (H : Meets P T ρ get a w x) {o : Oper} {t : TypeId} {vo : Operand} (ho : o.op = .range t vo) {base : Nat} {v : AVal} (hv : v.V x (a.eval vo)) {k : AVal → Ups → Option R} {z : R}
    (hk : actRange T get base t v k = some z) : ∃ u ups, k u ups = some z ∧ ActOk P o a w x u ups := by
  unfold actRange at hk
  split at hk
  case h_2 => cases hk
  rename_i kt et hut
  have ht : P.underlying t = some (.map kt et) := undOf_ok H.tbl hut (by simp)
  split at hk
  case h_2 => cases hk
  rename_i r
  split at hk
  case h_2 => cases hk
  rename_i K V m bs clk hg hb
  refine ⟨_, _, hk, ?_⟩
  have h0 := H.obj r _ hg
  have hobj := obj_of_get h0
  have hbase := H.obj base _ hb
  obtain ⟨c0, hc0, hone, hr⟩ := (show (AVal.map r).C x [a.eval vo] from hv)
  simp only [List.cons.injEq, and_true] at hc0
  have hr0 := hr
  unfold MapRel at hr
  rw [hobj] at hr
  obtain ⟨a0, h1, e1⟩ := hr
  have hrel := H.mem.objs r
  rw [hobj] at hrel
  obtain ⟨b, es, h2, h3, h4, h5⟩ := hrel
  rw [h2] at h1; cases h1
  have ev : a.eval vo = .map (some b) := hc0.trans e1
  intro next Q hnext
  have G := goes_made (ob := .iter (.map r) clk []) H.mem H.h hbase (.mapIter (some b) clk #[] clk) (fun hs hk => ⟨w.heap.size, b, if_pos rfl, if_pos rfl, AVal.C.mono hs hk (.map r) _ (by rw [← ev]; exact hv), rfl⟩)
  unfold Oper.wp
  have hrun : (execOp a.eval o).run P w = .ok (.value (.pointer (some ⟨w.heap.size, 0, none⟩))) (w.alloc (.mapIter (some b) clk #[] clk)) := by
    simp only [execOp, ho, Sem.run_bind, ev, run_range_map w t kt et b es clk ht (heap_at H h3), Result.andThen_ok, Sem.run_pure]
  rw [hrun, Oper.upon_value]
  refine hnext _ _ _ G rfl (show (AVal.map base).C _ _ from ⟨_, rfl, rfl, ?_⟩)
  unfold MapRel
  rw [made_obj hbase, if_pos rfl]
  exact ⟨_, if_pos rfl, rfl⟩

theorem mstamp_find {K V : Ty} {s : Nat} : ∀ {m : List (K.den × V.den)} {es : List MapEntry} {bs : List Nat}, All2 (EntryRel x K V) m es → es.map (·.born) = bs → ∀ {e : K.den × V.den}, mstamp m bs s = some e → ∃ c, es.find? (·.born == s) = some c ∧ EntryRel x K V e c
  | [], es, bs, A, hb, e, h => by cases bs <;> cases h
  | e0 :: m, es, bs, A, hb, e, h => by
    obtain ⟨c0, es, rfl, hr, A⟩ := A.cons_inv
    subst hb
    simp only [List.map_cons, mstamp] at h
    cases hc : Nat.beq c0.born s with
    | true =>
      rw [hc] at h; cases h
      exact ⟨c0, by rw [List.find?_cons, show (c0.born == s) = true by rw [Nat.eq_of_beq_eq_true hc]; simp], hr⟩
    | false =>
      rw [hc] at h
      have : (c0.born == s) = false := by
        cases hq : c0.born == s with
        | false => rfl
        | true => rw [eq_of_beq hq, Nat.beq_refl] at hc; cases hc
      obtain ⟨c, h1, h2⟩ := mstamp_find A rfl h
      exact ⟨c, by rw [List.find?_cons, this]; exact h1, h2⟩

theorem actEntry_ok (H : Meets P T ρ get a w x) {o : Oper} {vo : Operand} (ho : o.op = .entry vo) {v : AVal} (hv : v.V x (a.eval vo)) {k : AVal → Ups → Option R} {z : R}
    (hk : actEntry get v k = some z) : ∃ u ups, k u ups = some z ∧ ActOk P o a w x u ups := by
  unfold actEntry at hk
  split at hk
  case h_2 => cases hk
  rename_i ri
  split at hk
  case h_2 => cases hk
  rename_i r since seen hi
  split at hk
  case h_2 => cases hk
  rename_i K V m bs clk hg
  replace ⟨hc, hk⟩ := cond_some hk
  obtain rfl := Nat.eq_of_beq_eq_true hc
  unfold entP at hk
  split at hk
  case h_2 => cases hk
  rename_i s seen
  split at hk
  case h_2 => cases hk
  rename_i e he
  obtain ⟨bi, bm, es, ev, h0, h1, h2, h3, h4, A, hb⟩ := iter_at H hv hi hg
  obtain ⟨c, hf, hr⟩ := mstamp_find A hb he
  refine ⟨_, _, hk, ActOk.value (u := .tuple #[c.key, c.val]) H.mem H.h ?_ (show AVal.C x _ _ from ⟨[c.key, c.val], rfl, c.key, [c.val], rfl, hr.1, c.val, [], rfl, hr.2, rfl⟩)⟩
  have hlast : (s :: seen).reverse.toArray.back? = some s := by simp
  have hf' : es.find? (·.born == s) = some c := by rw [← Array.find?_toList]; exact hf
  have hrun : (Instr.entry (.pointer (some ⟨bi, 0, none⟩))).run P w = .ok (.tuple #[c.key, c.val]) w := by
    simp only [Instr.entry, getObj, Sem.run_bind, Sem.run, h2, h4, Result.andThen, hlast, bne_self_eq_false, Bool.false_eq_true, if_false, hf']
    rfl
  simp only [execOp, ho, Sem.run_bind, ev, hrun, Result.andThen_ok, Sem.run_pure]

theorem mleft_entries {K V : Ty} {seen : List Nat} : ∀ {m : List (K.den × V.den)} {es : List MapEntry} {bs : List Nat}, All2 (EntryRel x K V) m es → es.map (·.born) = bs →
    All2 (fun (p : Nat × (K.den × V.den)) c => p.1 = c.born ∧ EntryRel x K V p.2 c) (mleft seen m bs) (es.filter fun e => !seen.reverse.toArray.contains e.born)
  | [], es, bs, A, hb => by
    obtain rfl : es = [] := List.length_eq_zero_iff.1 A.1.symm
    cases bs <;> exact All2.nil
  | e0 :: m, es, bs, A, hb => by
    obtain ⟨c0, es, rfl, hr, A⟩ := A.cons_inv
    subst hb
    have ih := mleft_entries (seen := seen) A rfl
    have hsame : seen.reverse.toArray.contains c0.born = seen.contains c0.born := by simp
    simp only [List.map_cons, mleft, List.filter_cons, hsame]
    cases seen.contains c0.born with
    | true => simpa using ih
    | false => simpa using All2.cons ⟨rfl, hr⟩ ih

theorem allLt_mem {n : Nat} : ∀ {bs : List Nat}, allLt n bs = true → ∀ b ∈ bs, b < n
  | [], _, b, hb => by cases hb
  | b0 :: bs, h, b, hb => by
    simp only [allLt, Bool.and_eq_true] at h
    rcases List.mem_cons.1 hb with e | hb
    · subst e; simpa [Nat.blt_eq] using h.1
    · exact allLt_mem h.2 b hb

/-- The state behind a step of a range. -/
theorem goes_iter (M : Mem x) (hh : x.h = fun b => w.heap[b]?) {ri r since : Nat} {seen : List Nat} (h0 : x.σ[ri]? = some (.iter (.map r) since seen)) {bi bm b : Nat}
    (h1 : x.μ ri = some ⟨bi, 0, none⟩) (h2 : w.heap[bi]? = some (.mapIter (some bm) since seen.reverse.toArray since)) (h3 : (AVal.map r).C x [.map (some bm)]) {w1 : World} (hw : w1 = w ∨ w1 = w.drew) :
    Goes x w (x.wrote bi (.mapIter (some bm) since (b :: seen).reverse.toArray since) ri (.iter (.map r) since (b :: seen))) (ChangeMaps.setBlock w1 bi (.mapIter (some bm) since (seen.reverse.toArray.push b) since)) := by
  have e0 : seen.reverse.toArray.push b = (b :: seen).reverse.toArray := by simp
  rw [e0]
  have hobj := obj_of_get h0
  have hk : Keeps x (x.wrote bi (.mapIter (some bm) since (b :: seen).reverse.toArray since) ri (.iter (.map r) since (b :: seen))) ri := by
    refine ⟨fun g p c hp => ?_, fun g c1 hp => ?_, fun g lo len ex c hp => ?_, fun c hp => ?_⟩
    · unfold PtrRel; rw [wrote_obj h0, if_pos rfl]; trivial
    · unfold SlcRel; rw [wrote_obj h0, if_pos rfl]; trivial
    · unfold SubRel; rw [wrote_obj h0, if_pos rfl]; trivial
    · unfold MapRel at hp ⊢; rw [wrote_obj h0, if_pos rfl]; rw [hobj] at hp; exact hp
  have U0 : Upd0 x (x.wrote bi (.mapIter (some bm) since (b :: seen).reverse.toArray since) ri (.iter (.map r) since (b :: seen))) ri := {
    S := rfl
    obj := fun r' hr => by rw [wrote_obj h0, if_neg hr]
    μ := fun r' hr => rfl
    h := fun b hs hne => if_neg fun e => hne _ (by rw [hobj]; rfl) h1 e.symm
    keep := hk
    blk := fun a' hl' ha' => .inl ⟨a', by rw [hobj]; rfl, ha', rfl⟩ }
  have U : Upd x (x.wrote bi (.mapIter (some bm) since (b :: seen).reverse.toArray since) ri (.iter (.map r) since (b :: seen))) ri := ⟨U0, by
    rw [wrote_obj h0, if_pos rfl]
    exact ⟨bi, bm, h1, if_pos rfl, AVal.C.mono (U0.hS M) (U0.keeps M) (.map r) _ h3, rfl⟩⟩
  have G : Goes x w (x.wrote bi (.mapIter (some bm) since (b :: seen).reverse.toArray since) ri (.iter (.map r) since (b :: seen))) { w with heap := w.heap.setIfInBounds bi (.mapIter (some bm) since (b :: seen).reverse.toArray since) } := by
    refine U.goes M hh ?_ rfl rfl rfl (by simp)
    funext b'
    show (if b' = bi then _ else x.h b') = (w.heap.setIfInBounds bi _)[b']?
    have hs := MapKept.heap_set (o' := .mapIter (some bm) since (b :: seen).reverse.toArray since) h2
    by_cases e : b' = bi
    · rw [if_pos e, e, hs.1]
    · rw [if_neg e, hs.2 b' e, hh]
  rcases hw with rfl | rfl
  · exact G
  · exact G.trans (Goes.drew G.mem G.h _)

theorem wildNext_ok (H : Meets P T ρ get a w x) {o : Oper} {vo : Operand} (ho : o.op = .next vo false) {v : AVal} (hv : v.V x (a.eval vo)) {k : AVal → Ups → Option R} {z : R}
    (hk : wildNext get v k = some z) : WildOk P o a w x fun v ups => k v ups = some z := by
  unfold wildNext at hk
  split at hk
  case h_2 => cases hk
  rename_i ri
  split at hk
  case h_2 => cases hk
  rename_i r since seen hi
  split at hk
  case h_2 => cases hk
  rename_i K V m bs clk hg
  replace ⟨hc, hk⟩ := cond_some hk
  rw [Bool.and_eq_true] at hc
  obtain rfl := Nat.eq_of_beq_eq_true hc.1
  obtain ⟨bi, bm, es, ev, h0, h1, h2, h3, h4, A, hb⟩ := iter_at H hv hi hg
  have hold : ∀ c ∈ es.toList, c.born < clk := fun c hc' => allLt_mem hc.2 _ (by rw [← hb]; exact List.mem_map.2 ⟨c, hc', rfl⟩)
  have L := mleft_entries (seen := seen) A hb
  have hlist : (leftOf es seen.reverse.toArray).toList = es.toList.filter fun e => !seen.reverse.toArray.contains e.born := by unfold leftOf; rw [Array.toList_filter]
  rcases run_next_at (P := P) w o.type bi bm clk clk seen.reverse.toArray es clk h2 h4 hold (Nat.le_refl _) with ⟨hz, hrun⟩ | ⟨e, he, w1, hw, hrun⟩
  · have hnil : mleft seen m bs = [] := by
      rw [← hlist] at L
      have : (leftOf es seen.reverse.toArray).toList.length = 0 := by simpa using hz
      exact List.length_eq_zero_iff.1 (L.1.trans this)
    unfold nextP at hk
    rw [hnil] at hk
    refine .of hk (ActOk.value (u := .tuple #[.bool false]) H.mem H.h ?_ (show AVal.C x _ _ from ⟨[.bool false], rfl, .bool false, [], rfl, rfl, rfl⟩))
    simp only [execOp, ho, Sem.run_bind, ev, hrun, Result.andThen_ok, Sem.run_pure]
  · rw [hlist] at he
    obtain ⟨i, hil, hie⟩ := List.getElem_of_mem he
    have hp : i < (mleft seen m bs).length := by rw [L.1]; exact hil
    have hrel := L.2 i _ _ (List.getElem?_eq_getElem hp) (List.getElem?_eq_getElem hil)
    rw [hie] at hrel
    have hmem : (mleft seen m bs)[i] ∈ mleft seen m bs := List.getElem_mem hp
    generalize hq : (mleft seen m bs)[i] = q at hrel hmem
    have hk' : k (.tup (.cons (.dat true .bool true) (.cons (.dat true K q.2.1) (.cons (.dat true V q.2.2) .nil)))) [(ri, .iter (.map r) clk (q.1 :: seen))] = some z := by
      unfold nextP at hk
      split at hk
      · rename_i hn; rw [hn] at hmem; cases hmem
      · rename_i p l hn
        rw [hn] at hmem
        exact allEq_mem hk _ (List.mem_map.2 ⟨q, hmem, rfl⟩)
    intro next Q hnext
    unfold Oper.wp
    have hx : (execOp a.eval o).run P w = .ok (.value (.tuple #[.bool true, e.key, e.val])) (ChangeMaps.setBlock w1 bi (.mapIter (some bm) clk (seen.reverse.toArray.push e.born) clk)) := by
      simp only [execOp, ho, Sem.run_bind, ev, hrun, Result.andThen_ok, Sem.run_pure]
    rw [hx, Oper.upon_value]
    have G := goes_iter (b := q.1) H.mem H.h h0 h1 h2 h3 hw
    rw [← hrel.1]
    refine hnext _ _ _ _ _ hk' G rfl ?_
    exact (show AVal.C _ _ _ from ⟨[.bool true, e.key, e.val], rfl, .bool true, [e.key, e.val], rfl, rfl, e.key, [e.val], rfl, DatV.congr G.S hrel.2.1, e.val, [], rfl, DatV.congr G.S hrel.2.2, rfl⟩)

theorem eqIn_slice_none (d : Nat) {t e : TypeId} (l c : Nat) (h : P.underlying t = some (.slice e)) : (Op.equalIn (d + 1) t (.slice none l c) (.slice none 0 0)).run P w = .ok true w := by simp [Op.equalIn, run_underlying h]

theorem wildNil_ok (H : Meets P T ρ get a w x) {o : Oper} {op : BinOp} {t yt : TypeId} {xo yo : Operand} (ho : o.op = .binOp op t xo yo yt) (hy : isNilC yo = true) {u : AVal} (hu : u.V x (a.eval xo))
    {k : AVal → Ups → Option R} {z : R} (hk : wildNil T get op t u (fun v => k v []) = some z) : WildOk P o a w x fun v ups => k v ups = some z := by
  have ey : a.eval yo = .slice none 0 0 := by rw [isNilC_inv hy]; rfl
  have fin : ∀ {A : Type} (xs : List A) (e : TypeId), P.underlying t = some (.slice e) → (∃ base l c, a.eval xo = .slice base l c ∧ (base = none → xs = [])) →
      (bif List.isEmpty xs then fork (binEq op true fun v => k v []) (binEq op false fun v => k v []) else binEq op false fun v => k v []) = some z → WildOk P o a w x fun v ups => k v ups = some z := by
    rintro A xs e ht ⟨base, l, c, e1, hbn⟩ hk
    have two : base = none → binEq op true (fun v => k v []) = some z := fun hb => by
      rw [hbn hb] at hk
      exact fork_one hk
    have one : binEq op false (fun v => k v []) = some z := by
      cases hx : List.isEmpty xs with
      | false => rw [hx] at hk; exact hk
      | true => rw [hx] at hk; exact fork_two hk
    cases base with
    | none =>
      have he : (Op.equal t (.slice none l c) (.slice none 0 0)).run P w = .ok true w := eqIn_slice_none 9999 l c ht
      obtain ⟨u, ups, h3, h4⟩ := binEq_ok H ho e1 ey run_guard_slice (by simp [binOp, he]) (by simp [binOp, he]) (two rfl)
      exact .of h3 h4
    | some ad =>
      have he : (Op.equal t (.slice (some ad) l c) (.slice none 0 0)).run P w = .ok false w := eqIn_slice_some 9999 ad l c ht
      obtain ⟨u, ups, h3, h4⟩ := binEq_ok H ho e1 ey run_guard_slice (by simp [binOp, he]) (by simp [binOp, he]) one
      exact .of h3 h4
  unfold wildNil at hk
  split at hk
  case h_2 => cases hk
  rename_i e hut
  have ht := undOf_ok H.tbl hut (by simp)
  split at hk
  · rename_i p τ xs
    obtain ⟨base, len, cap, e1, e2, h3, h4, _⟩ := (show Ty.Rel x.h (x.S p) (.slice τ) xs [a.eval xo] from hu)
    simp only [List.cons.injEq, and_true] at e1
    exact fin xs e ht ⟨base, len, cap, e1, fun hb => List.length_eq_zero_iff.1 (by have := h4 hb; omega)⟩ hk
  · rename_i r g
    split at hk
    case h_2 => cases hk
    rename_i g' τ xs hg
    replace ⟨hc, hk⟩ := cond_some hk
    have hob := obj_of_get (H.obj _ _ hg)
    obtain ⟨c, e1, _, h1⟩ := (show (AVal.slc r g).C x [a.eval xo] from hu)
    simp only [List.cons.injEq, and_true] at e1
    unfold SlcRel at h1
    rw [hob] at h1
    have h1 := h1.2 (Nat.eq_of_beq_eq_true hc)
    have hrel := H.mem.objs r
    rw [hob] at hrel
    refine fin xs e ht ?_ hk
    cases hm : x.μ r with
    | none =>
      rw [hm] at h1
      obtain ⟨b, e2⟩ := h1
      rcases hrel with ⟨_, h2⟩ | ⟨b2, _, _, _, _, h2, _⟩
      · exact ⟨_, _, _, e1.trans e2, fun _ => h2⟩
      · rw [h2] at hm; cases hm
    | some ad => rw [hm] at h1; obtain ⟨cap, e2, _⟩ := h1; exact ⟨_, _, _, e1.trans e2, fun hb => by cases hb⟩
  · cases hk

theorem wildK_ok (H : Meets P T ρ get a w x) (o : Oper) {k : AVal → Ups → Option R} {z : R} (hk : wildK T get o.op ρ k = some z) : WildOk P o a w x fun v ups => k v ups = some z := by
  unfold wildK at hk
  split at hk
  · rename_i xo ho
    split at hk
    case h_2 => cases hk
    rename_i v hx
    exact wildNext_ok H ho (H.val _ _ hx) hk
  · rename_i op t xo yo yt ho
    split at hk
    case h_2 => cases hk
    rename_i u hx
    obtain ⟨hc, hk⟩ := cond_some hk
    exact wildNil_ok H ho hc (H.val _ _ hx) hk
  · cases hk
end
end Go.Am
