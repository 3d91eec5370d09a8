/- The abstract machine, twenty-first part: operations one behind the other, in any order that the model may take. -/
import Derived.Test.YtiecnmmffplgcaaAmTB
import Derived.Orders
namespace Go.Am

structure St where
  slots : Nat → Option AVal
  σ : List AObj

def put (s : Nat → Option AVal) (d : Option Nat) (v : Option AVal) : Nat → Option AVal :=
  match d with
  | some d => fun i => bif Nat.beq i d then v else s i
  | none => s

def St.get (st : St) (touch : List Nat) : Nat → Option AObj := fun r => bif memB touch r then st.σ[r]? else none
def St.upd (st : St) (d : Option Nat) (v : AVal) (ups : Ups) : St := ⟨put st.slots d (some v), applyUps st.σ ups⟩
/-- What was left out leaves nothing in its slot. -/
def St.skip (st : St) (d : Option Nat) : St := ⟨put st.slots d (some (.tup .nil)), st.σ⟩
def St.know (st : St) (g : Nat) (p b : Bool) : St := ⟨put st.slots (some g) (some (.dat p .bool b)), st.σ⟩

def upsOk (an : Ann) (ups : Ups) : Bool := ups.all (fun p => memB an.touch p.1) && (!an.ro || ups.isEmpty)

section
variable (R : Type) (T : Tbl) (fns : Fns)

noncomputable def execK (ao : AOp) (st : St) (k : St → Option R) : Option R :=
  actK R T fns ao.o.op ao.an (opval ao.reads st.slots) (st.get ao.an.touch) fun v ups => bif upsOk ao.an ups then k (st.upd ao.o.dst v ups) else none

noncomputable def stepK (ao : AOp) (st : St) (k : St → Option R) : Option R :=
  match ao.guard with
  | none => execK R T fns ao st k
  | some (g, want) => match st.slots g with
    | some (.dat p .bool b) =>
      bif b then (bif want then execK R T fns ao (st.know g p true) k else k ((st.know g p true).skip ao.o.dst))
      else (bif want then k ((st.know g p false).skip ao.o.dst) else execK R T fns ao (st.know g p false) k)
    | some (.tup .nil) => k (st.skip ao.o.dst)
    | _ => none

noncomputable def stepsK : List AOp → St → (St → Option R) → Option R
  | [], st, k => k st
  | ao :: l, st, k => stepK R T fns ao st fun st' => stepsK l st' k
end

section
variable {P : Program} {T : Tbl} {fns : Fns} {R : Type}

/-- A step from one state to another. -/
def Leads (T : Tbl) (fns : Fns) (ao : AOp) (st st' : St) : Prop := ∀ (R : Type) (k : St → Option R), stepK R T fns ao st k = k st'

def gv (ao : AOp) (st : St) : Option Bool :=
  match ao.guard with
  | none => some true
  | some (g, want) => match st.slots g with
    | some (.dat _ .bool b) => some (b == want)
    | some (.tup .nil) => some false
    | _ => none

theorem know_same {st : St} {g : Nat} {p b : Bool} (h : st.slots g = some (.dat p .bool b)) : st.know g p b = st := by
  obtain ⟨s, σ⟩ := st
  simp only [St.know, put, St.mk.injEq, and_true]
  funext i
  cases hb : Nat.beq i g with
  | true => rw [Nat.eq_of_beq_eq_true hb]; exact h.symm
  | false => rfl

theorem stepK_eq (ao : AOp) (st : St) (k : St → Option R) : stepK R T fns ao st k = match gv ao st with
    | some true => execK R T fns ao st k
    | some false => k (st.skip ao.o.dst)
    | none => none := by
  unfold stepK gv
  split
  · rfl
  · rename_i g want hg
    split
    · rename_i p b hs
      cases b with
      | true => rw [know_same hs]; cases want <;> rfl
      | false => rw [know_same hs]; cases want <;> rfl
    · rfl
    · rfl

/-- What an operation comes to in a state. -/
def Comes (T : Tbl) (fns : Fns) (ao : AOp) (st : St) (v : AVal) (ups : Ups) : Prop :=
  ∀ (R : Type) (k : AVal → Ups → Option R), actK R T fns ao.o.op ao.an (opval ao.reads st.slots) (st.get ao.an.touch) k = k v ups

theorem stepK_inv (hfns : FnsOk P fns) {ao : AOp} {st : St} {k : St → Option R} {z : R} (h : stepK R T fns ao st k = some z) :
    ∃ st', k st' = some z ∧ Leads T fns ao st st' ∧ ((gv ao st = some false ∧ st' = st.skip ao.o.dst) ∨ (gv ao st = some true ∧ ∃ v ups, Comes T fns ao st v ups ∧ upsOk ao.an ups = true ∧ st' = st.upd ao.o.dst v ups)) := by
  rw [stepK_eq] at h
  cases hg : gv ao st with
  | none => rw [hg] at h; cases h
  | some b =>
    rw [hg] at h
    cases b with
    | false => exact ⟨_, h, fun R' k' => by rw [stepK_eq, hg], .inl ⟨rfl, rfl⟩⟩
    | true =>
      simp only at h
      unfold execK at h
      obtain ⟨⟨v, ups⟩, h1, h2⟩ := actK_cn T (st.get ao.an.touch) hfns ao.o.op ao.an (opval ao.reads st.slots) R (fun p => bif upsOk ao.an p.2 then k (st.upd ao.o.dst p.1 p.2) else none) z h
      obtain ⟨h3, h4⟩ := cond_some h1
      have hc : Comes T fns ao st v ups := fun R' k' => h2 R' fun p => k' p.1 p.2
      refine ⟨_, h4, fun R' k' => ?_, .inr ⟨rfl, v, ups, hc, h3, rfl⟩⟩
      rw [stepK_eq, hg]
      simp only
      unfold execK
      rw [hc]
      simp only at h3
      rw [h3]; rfl

theorem step_of_comes {ao : AOp} {st : St} {v : AVal} {ups : Ups} (hg : gv ao st = some true) (hc : Comes T fns ao st v ups) (hu : upsOk ao.an ups = true) : Leads T fns ao st (st.upd ao.o.dst v ups) := by
  intro R k
  rw [stepK_eq, hg]
  simp only
  unfold execK
  rw [hc, hu]; rfl

theorem step_of_skip {ao : AOp} {st : St} (hg : gv ao st = some false) : Leads T fns ao st (st.skip ao.o.dst) := by
  intro R k
  rw [stepK_eq, hg]

/-- May two operations change places? -/
def indep (x y : AOp) : Bool :=
  (match x.o.dst with | some d => !memB y.reads d && (match y.o.dst with | some e => !Nat.beq d e | none => true) | none => true) &&
  (match y.o.dst with | some d => !memB x.reads d | none => true) &&
  (((x.an.ro && y.an.ro) || x.an.touch.all (fun r => !memB y.an.touch r)) || (((addrOp x.o.op && storeOp y.o.op) || (storeOp x.o.op && addrOp y.o.op)) || lookEntry x.o.op y.o.op))

theorem put_other {s : Nat → Option AVal} {d : Option Nat} {v : Option AVal} {i : Nat} (h : d ≠ some i) : put s d v i = s i := by
  cases d with
  | none => rfl
  | some d =>
    simp only [put]
    cases hb : Nat.beq i d with
    | true => exact absurd (by rw [Nat.eq_of_beq_eq_true hb]) h
    | false => rfl

theorem opval_congr {reads : List Nat} {s s' : Nat → Option AVal} (h : ∀ i, i ∈ reads → s' i = s i) : opval reads s' = opval reads s := by
  funext o
  cases o with
  | tmp t =>
    simp only [opval]
    cases hb : memB reads t with
    | true => simp only [cond_true]; exact h t (memB_iff.1 hb)
    | false => rfl
  | _ => rfl

theorem gv_congr {ao : AOp} {st st' : St} (h : ∀ i, i ∈ ao.reads → st'.slots i = st.slots i) : gv ao st' = gv ao st := by
  unfold gv
  cases hg : ao.guard with
  | none => rfl
  | some q =>
    obtain ⟨g, want⟩ := q
    simp only
    rw [h g (by unfold AOp.reads; rw [hg]; simp)]

theorem get_congr {st st' : St} {touch : List Nat} (h : ∀ r, r ∈ touch → st'.σ[r]? = st.σ[r]?) : st'.get touch = st.get touch := by
  funext r
  unfold St.get
  cases hb : memB touch r with
  | true => simp only [cond_true]; exact h r (memB_iff.1 hb)
  | false => rfl

theorem applyUps_other : ∀ (ups : Ups) (σ : List AObj) (r : Nat), (∀ p ∈ ups, p.1 ≠ r) → (applyUps σ ups)[r]? = σ[r]? := by
  intro ups
  induction ups with
  | nil => intro σ r _; rfl
  | cons p ups ih =>
    intro σ r h
    show (applyUps (σ.set p.1 p.2) ups)[r]? = _
    rw [ih _ r fun q hq => h q (by simp [hq]), List.getElem?_set, if_neg (h p (by simp))]

theorem applyUps_set : ∀ (ups : Ups) (σ : List AObj) (r : Nat) (o : AObj), (∀ p ∈ ups, p.1 ≠ r) → applyUps (σ.set r o) ups = (applyUps σ ups).set r o := by
  intro ups
  induction ups with
  | nil => intro σ r o _; rfl
  | cons p ups ih =>
    intro σ r o h
    show applyUps ((σ.set r o).set p.1 p.2) ups = (applyUps (σ.set p.1 p.2) ups).set r o
    rw [List.set_comm _ _ (fun e => h p (by simp) e.symm), ih _ r o fun q hq => h q (by simp [hq])]

theorem applyUps_comm : ∀ (u v : Ups) (σ : List AObj), (∀ p ∈ u, ∀ q ∈ v, p.1 ≠ q.1) → applyUps (applyUps σ u) v = applyUps (applyUps σ v) u := by
  intro u
  induction u with
  | nil => intro v σ _; rfl
  | cons p u ih =>
    intro v σ h
    show applyUps (applyUps (σ.set p.1 p.2) u) v = applyUps ((applyUps σ v).set p.1 p.2) u
    rw [ih v _ fun q hq => h q (by simp [hq]), applyUps_set v σ p.1 p.2 fun q hq e => h p (by simp) q hq e.symm]

theorem put_comm {s : Nat → Option AVal} {d e : Option Nat} {u v : Option AVal} (h : ∀ i, d = some i → e ≠ some i) : put (put s d u) e v = put (put s e v) d u := by
  cases d with
  | none => rfl
  | some d =>
    cases e with
    | none => rfl
    | some e =>
      funext i
      simp only [put]
      cases h1 : Nat.beq i d <;> cases h2 : Nat.beq i e <;> simp only [cond_true, cond_false]
      exact absurd (by rw [← Nat.eq_of_beq_eq_true h1, ← Nat.eq_of_beq_eq_true h2]) (h d rfl)

/-- A store leaves the objects' shapes. -/
theorem store_get {x : AOp} {st : St} {v : AVal} {ups : Ups} (hs : storeOp x.o.op = true) (hc : Comes T fns x st v ups) (d : Option Nat) (touch : List Nat) : ∀ r, Shp (st.get touch r) ((st.upd d v ups).get touch r) := by
  obtain ⟨r0, ob, ob', e, hg, hsh⟩ := store_shape hs (hc _ fun v u => some (v, u))
  intro r
  unfold St.get
  cases hm : memB touch r with
  | false => exact .same _
  | true =>
    simp only [cond_true, St.upd, e, applyUps]
    have h0 : st.σ[r0]? = some ob := by
      unfold St.get at hg
      cases hm0 : memB x.an.touch r0 with
      | true => rw [hm0] at hg; exact hg
      | false => rw [hm0] at hg; cases hg
    by_cases hr : r0 = r
    · subst hr
      have hl : r0 < st.σ.length := (List.getElem?_eq_some_iff.1 h0).1
      rw [List.getElem?_set, if_pos rfl, if_pos hl, h0]; exact hsh
    · rw [List.getElem?_set, if_neg hr]; exact .same _

theorem addr_ups {y : AOp} {st : St} {v : AVal} {ups : Ups} (ha : addrOp y.o.op = true) (hc : Comes T fns y st v ups) : ups = [] := by
  have h1 := hc Ups fun _ u => some u
  rw [addr_plain ha] at h1
  have h2 := hc Ups fun _ _ => some []
  rw [h2] at h1
  cases h1; rfl

/-- Two that may change places do. -/
theorem step_swap (hfns : FnsOk P fns) {x y : AOp} (hi : indep x y = true) {st st1 st2 : St} (h1 : Leads T fns x st st1) (h2 : Leads T fns y st1 st2) : ∃ st1', Leads T fns y st st1' ∧ Leads T fns x st1' st2 := by
  unfold indep at hi
  rw [Bool.and_eq_true, Bool.and_eq_true] at hi
  obtain ⟨⟨ha, hb⟩, hc⟩ := hi
  have xy : ∀ i, i ∈ y.reads → x.o.dst ≠ some i := fun i hm e => by
    rw [e] at ha; simp only [Bool.and_eq_true] at ha
    rw [memB_iff.2 hm] at ha; cases ha.1
  have yx : ∀ i, i ∈ x.reads → y.o.dst ≠ some i := fun i hm e => by
    rw [e] at hb; simp only at hb
    rw [memB_iff.2 hm] at hb; cases hb
  have dd : ∀ i, x.o.dst = some i → y.o.dst ≠ some i := fun i e e' => by
    rw [e, e'] at ha; simp only [Bool.and_eq_true] at ha
    rw [Nat.beq_refl] at ha; cases ha.2
  obtain ⟨s1, e1, _, c1⟩ := stepK_inv hfns (h1 St some)
  cases e1
  obtain ⟨s2, e2, _, c2⟩ := stepK_inv hfns (h2 St some)
  cases e2
  -- the first one's mark on the second one's reading: none
  have uo : ∀ {an : Ann} {ups : Ups}, upsOk an ups = true → (∀ p ∈ ups, p.1 ∈ an.touch) ∧ (an.ro = true → ups = []) := by
    intro an ups h
    unfold upsOk at h
    rw [Bool.and_eq_true] at h
    refine ⟨fun p hp => memB_iff.1 (List.all_eq_true.1 h.1 p hp), fun hr => ?_⟩
    have := h.2
    rw [hr] at this
    exact List.isEmpty_iff.1 (by simpa using this)
  have tt : ((x.an.ro && y.an.ro) || x.an.touch.all (fun r => !memB y.an.touch r)) = true → ∀ {u v : Ups}, upsOk x.an u = true → upsOk y.an v = true → (∀ r ∈ y.an.touch, ∀ p ∈ u, p.1 ≠ r) ∧ (∀ r ∈ x.an.touch, ∀ p ∈ v, p.1 ≠ r) := by
    intro hc u v hu hv
    obtain ⟨u1, u2⟩ := uo hu
    obtain ⟨v1, v2⟩ := uo hv
    rcases Bool.or_eq_true_iff.1 hc with h | h
    · rw [Bool.and_eq_true] at h
      rw [u2 h.1, v2 h.2]
      exact ⟨(fun _ _ p hp => by cases hp), (fun _ _ p hp => by cases hp)⟩
    · have hd : ∀ r, r ∈ x.an.touch → r ∉ y.an.touch := fun r h1 h2 => by
        have := List.all_eq_true.1 h r h1
        rw [memB_iff.2 h2] at this; cases this
      exact ⟨fun r hr p hp e => hd p.1 (u1 p hp) (e ▸ hr), fun r hr p hp e => hd r hr (e ▸ v1 p hp)⟩
  have slotsX : ∀ (v : Option AVal) (i : Nat), i ∈ y.reads → put st.slots x.o.dst v i = st.slots i := fun v i hm => put_other (xy i hm)
  have slotsY : ∀ (v : Option AVal) (i : Nat), i ∈ x.reads → put st.slots y.o.dst v i = st.slots i := fun v i hm => put_other (yx i hm)
  rcases c1 with ⟨g1, rfl⟩ | ⟨g1, v1, u1, k1, o1, rfl⟩
  · have hgy : gv y (st.skip x.o.dst) = gv y st := gv_congr fun i hm => slotsX (some (.tup .nil)) i hm
    rcases c2 with ⟨g2, rfl⟩ | ⟨g2, v2, u2, k2, o2, rfl⟩
    · rw [hgy] at g2
      refine ⟨_, step_of_skip g2, ?_⟩
      have hgx : gv x (st.skip y.o.dst) = gv x st := gv_congr fun i hm => slotsY (some (.tup .nil)) i hm
      have := step_of_skip (T := T) (fns := fns) (hgx.trans g1)
      have e : (st.skip y.o.dst).skip x.o.dst = (st.skip x.o.dst).skip y.o.dst := by
        simp only [St.skip, St.mk.injEq, and_true]; exact put_comm fun i e e' => dd i e' e
      rw [e] at this; exact this
    · rw [hgy] at g2
      have k2' : Comes T fns y st v2 u2 := fun R k => by
        have := k2 R k
        rw [opval_congr (s := st.slots) (s' := (st.skip x.o.dst).slots) (fun i hm => slotsX (some (.tup .nil)) i hm)] at this
        exact this
      refine ⟨_, step_of_comes g2 k2' o2, ?_⟩
      have hgx : gv x (st.upd y.o.dst v2 u2) = gv x st := gv_congr fun i hm => slotsY (some v2) i hm
      have := step_of_skip (T := T) (fns := fns) (hgx.trans g1)
      have e : (st.upd y.o.dst v2 u2).skip x.o.dst = (st.skip x.o.dst).upd y.o.dst v2 u2 := by
        simp only [St.skip, St.upd, St.mk.injEq, and_true]; exact put_comm fun i e e' => dd i e' e
      rw [e] at this; exact this
  · have hgy : gv y (st.upd x.o.dst v1 u1) = gv y st := gv_congr fun i hm => slotsX (some v1) i hm
    rcases c2 with ⟨g2, rfl⟩ | ⟨g2, v2, u2, k2, o2, rfl⟩
    · rw [hgy] at g2
      refine ⟨_, step_of_skip g2, ?_⟩
      have hgx : gv x (st.skip y.o.dst) = gv x st := gv_congr fun i hm => slotsY (some (.tup .nil)) i hm
      have k1' : Comes T fns x (st.skip y.o.dst) v1 u1 := fun R k => by
        have := k1 R k
        rw [← opval_congr (s := st.slots) (s' := (st.skip y.o.dst).slots) (fun i hm => slotsY (some (.tup .nil)) i hm)] at this
        exact this
      have := step_of_comes (hgx.trans g1) k1' o1
      have e : (st.skip y.o.dst).upd x.o.dst v1 u1 = (st.upd x.o.dst v1 u1).skip y.o.dst := by
        simp only [St.skip, St.upd, St.mk.injEq, and_true]; exact put_comm fun i e e' => dd i e' e
      rw [e] at this; exact this
    · rw [hgy] at g2
      -- what the one comes to does not hang on the other
      obtain ⟨k2', k1', ecomm⟩ : Comes T fns y st v2 u2 ∧ Comes T fns x (st.upd y.o.dst v2 u2) v1 u1 ∧ applyUps (applyUps st.σ u2) u1 = applyUps (applyUps st.σ u1) u2 := by
        rcases Bool.or_eq_true_iff.1 hc with hc | hc
        · obtain ⟨t1, t2⟩ := tt hc o1 o2
          refine ⟨fun R k => ?_, fun R k => ?_, applyUps_comm u2 u1 st.σ fun p hp q hq e => ?_⟩
          · have := k2 R k
            rw [opval_congr (s := st.slots) (s' := (st.upd x.o.dst v1 u1).slots) (fun i hm => slotsX (some v1) i hm), get_congr (st := st) (st' := st.upd x.o.dst v1 u1) (fun r hr => applyUps_other u1 st.σ r (t1 r hr))] at this
            exact this
          · have := k1 R k
            rw [← opval_congr (s := st.slots) (s' := (st.upd y.o.dst v2 u2).slots) (fun i hm => slotsY (some v2) i hm), ← get_congr (st := st) (st' := st.upd y.o.dst v2 u2) (fun r hr => applyUps_other u2 st.σ r (t2 r hr))] at this
            exact this
          · obtain ⟨w1, _⟩ := uo o2
            exact t1 p.1 (w1 p hp) q hq e.symm
        rcases Bool.or_eq_true_iff.1 hc with hc | hc
        case inr.inr =>
          obtain ⟨t, a1, a2, b1, b2, ex, ey⟩ := lookEntry_inv hc
          -- the lookup's and the entry's own runs
          have kx : ∃ v u, opval x.reads st.slots a1 = some v ∧ opval x.reads st.slots a2 = some u ∧ ∀ (R : Type) (k : AVal → Ups → Option R), actLookup T (st.get x.an.touch) t v u false k = k v1 u1 := by
            have h0 := k1 (AVal × Ups) fun v u => some (v, u)
            rw [ex] at h0
            have h0 : (match opval x.reads st.slots a1, opval x.reads st.slots a2 with | some u, some v => actLookup T (st.get x.an.touch) t u v false (fun v u => some (v, u)) | _, _ => none) = some (v1, u1) := h0
            cases ha1 : opval x.reads st.slots a1 with
            | none => rw [ha1] at h0; cases h0
            | some v =>
              cases ha2 : opval x.reads st.slots a2 with
              | none => rw [ha1, ha2] at h0; cases h0
              | some u =>
                refine ⟨v, u, rfl, rfl, fun R k => ?_⟩
                have h1 := k1 R k
                rw [ex] at h1
                have h1 : (match opval x.reads st.slots a1, opval x.reads st.slots a2 with | some u, some v => actLookup T (st.get x.an.touch) t u v false k | _, _ => none) = k v1 u1 := h1
                rw [ha1, ha2] at h1
                exact h1
          obtain ⟨v, u, ha1, ha2, kx⟩ := kx
          have k2s : Comes T fns y ⟨st.slots, applyUps st.σ u1⟩ v2 u2 := fun R k => by
            have := k2 R k
            rw [opval_congr (s := st.slots) (s' := (st.upd x.o.dst v1 u1).slots) (fun i hm => slotsX (some v1) i hm)] at this
            exact this
          have e1 : u1 = [] := by
            have h0 := kx (AVal × Ups) fun v u => some (v, u)
            unfold actLookup at h0
            obtain ⟨_, _, _, _, _, _, _, _, _, _, _, _, _, _, _, _, _, _, hh⟩ := mapK_inv h0
            simp only [cond_false, Option.some.injEq, Prod.mk.injEq] at hh
            exact hh.2.symm
          subst e1
          have ky : ∃ v u, ∀ (R : Type) (k : AVal → Ups → Option R), actMapEntry T (st.get y.an.touch) t v u k = k v2 u2 := by
            have h0 := k2s (AVal × Ups) fun v u => some (v, u)
            rw [ey] at h0
            have h0 : (match opval y.reads st.slots b1, opval y.reads st.slots b2 with | some u, some v => actMapEntry T (st.get y.an.touch) t u v (fun v u => some (v, u)) | _, _ => none) = some (v2, u2) := h0
            cases hb1 : opval y.reads st.slots b1 with
            | none => rw [hb1] at h0; cases h0
            | some v =>
              cases hb2 : opval y.reads st.slots b2 with
              | none => rw [hb1, hb2] at h0; cases h0
              | some u =>
                refine ⟨v, u, fun R k => ?_⟩
                have h1 := k2s R k
                rw [ey] at h1
                have h1 : (match opval y.reads st.slots b1, opval y.reads st.slots b2 with | some u, some v => actMapEntry T (st.get y.an.touch) t u v k | _, _ => none) = k v2 u2 := h1
                rw [hb1, hb2] at h1
                exact h1
          obtain ⟨v', u', ky⟩ := ky
          obtain ⟨_, kx'⟩ := look_behind (get' := (st.upd y.o.dst v2 u2).get x.an.touch) kx ky (fun r ob ob' h h' => by
              unfold St.get at h h'
              cases m1 : memB x.an.touch r with
              | false => rw [m1] at h; cases h
              | true =>
                cases m2 : memB y.an.touch r with
                | false => rw [m2] at h'; cases h'
                | true => rw [m1] at h; rw [m2] at h'; exact Option.some.inj (h.symm.trans h'))
            (fun r hr => by
              unfold St.get St.upd
              simp only
              rw [applyUps_other u2 st.σ r hr])
            (fun r ob o0 h0 e => by
              unfold St.get at h0 ⊢
              cases m1 : memB x.an.touch r with
              | false => rw [m1] at h0; cases h0
              | true =>
                rw [m1] at h0
                have hlt : r < st.σ.length := (List.getElem?_eq_some_iff.1 (show st.σ[r]? = some o0 from h0)).1
                simp only [cond_true, St.upd, e, applyUps]
                rw [List.getElem?_set, if_pos rfl, if_pos hlt])
          refine ⟨k2s, fun R k => ?_, rfl⟩
          have h1 := kx' R k
          show actK R T fns x.o.op x.an (opval x.reads (put st.slots y.o.dst (some v2))) _ k = _
          rw [opval_congr (s := st.slots) (s' := put st.slots y.o.dst (some v2)) (fun i hm => slotsY (some v2) i hm), ex]
          show (match opval x.reads st.slots a1, opval x.reads st.slots a2 with | some u, some v => actLookup T ((st.upd y.o.dst v2 u2).get x.an.touch) t u v false k | _, _ => none) = _
          rw [ha1, ha2]
          exact h1
        case inr.inl =>
          rcases Bool.or_eq_true_iff.1 hc with hc | hc <;> rw [Bool.and_eq_true] at hc
          · have e1 := addr_ups hc.1 k1
            subst e1
            have k2' : Comes T fns y st v2 u2 := fun R k => by
              have := k2 R k
              rw [opval_congr (s := st.slots) (s' := (st.upd x.o.dst v1 []).slots) (fun i hm => slotsX (some v1) i hm)] at this
              exact this
            refine ⟨k2', fun R k => ?_, rfl⟩
            have := k1 R k
            rw [← opval_congr (s := st.slots) (s' := (st.upd y.o.dst v2 u2).slots) (fun i hm => slotsY (some v2) i hm), addr_shape hc.1 (store_get hc.2 k2' y.o.dst x.an.touch)] at this
            exact this
          · have k2' : Comes T fns y st v2 u2 := fun R k => by
              have := k2 R k
              rw [opval_congr (s := st.slots) (s' := (st.upd x.o.dst v1 u1).slots) (fun i hm => slotsX (some v1) i hm), ← addr_shape hc.2 (store_get hc.1 k1 x.o.dst y.an.touch)] at this
              exact this
            have e2 := addr_ups hc.2 k2'
            subst e2
            refine ⟨k2', fun R k => ?_, rfl⟩
            have := k1 R k
            rw [← opval_congr (s := st.slots) (s' := (st.upd y.o.dst v2 []).slots) (fun i hm => slotsY (some v2) i hm)] at this
            exact this
      refine ⟨_, step_of_comes g2 k2' o2, ?_⟩
      have hgx : gv x (st.upd y.o.dst v2 u2) = gv x st := gv_congr fun i hm => slotsY (some v2) i hm
      have := step_of_comes (hgx.trans g1) k1' o1
      have e : (st.upd y.o.dst v2 u2).upd x.o.dst v1 u1 = (st.upd x.o.dst v1 u1).upd y.o.dst v2 u2 := by
        simp only [St.upd, St.mk.injEq]
        exact ⟨put_comm fun i e e' => dd i e' e, ecomm⟩
      rw [e] at this; exact this

/-- One that may go ahead of all those before it does. -/
theorem steps_pull (hfns : FnsOk P fns) {y : AOp} : ∀ (p : List AOp) (q : List AOp) (st : St) (k : St → Option R) (z : R), (∀ x ∈ p, indep x y = true) → stepsK R T fns (p ++ y :: q) st k = some z →
    ∃ st', Leads T fns y st st' ∧ stepsK R T fns (p ++ q) st' k = some z := by
  intro p
  induction p with
  | nil =>
    intro q st k z _ h
    obtain ⟨st', h1, h2, _⟩ := stepK_inv hfns (show stepK R T fns y st _ = some z from h)
    exact ⟨st', h2, h1⟩
  | cons x p ih =>
    intro q st k z hi h
    obtain ⟨st1, h1, h2, _⟩ := stepK_inv hfns (show stepK R T fns x st _ = some z from h)
    obtain ⟨st2, h3, h4⟩ := ih q st1 k z (fun x' hx' => hi x' (by simp [hx'])) h1
    obtain ⟨st1', h5, h6⟩ := step_swap hfns (hi x (by simp)) h2 h3
    refine ⟨st1', h5, ?_⟩
    show stepK R T fns x st1' _ = some z
    rw [h6]; exact h4
end
end Go.Am
