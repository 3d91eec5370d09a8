/- The abstract machine: U V W. -/
import Derived.Test.YtbamjkhnnlekpaaAmTB
import Derived.Orders
/- The abstract machine, twenty-first part: operations one behind the other, in any order that the model may take. -/
namespace Go.Am

structure St where
  slots : Nat → Option AVal
  σ : List AObj

def put (s : Nat → Option AVal) (d : Option Nat) (v : Option AVal) : Nat → Option AVal :=
  match d with
  | some d => fun i => bif Nat.beq i d then v else s i
  | none => s

def St.get (st : St) (touch : List Nat) : Nat → Option AObj := fun r => bif memB touch r then st.σ[r]? else none
def St.upd (st : St) (d : Option Nat) (v : AVal) (ups : Ups) : St := ⟨put st.slots d (some v), applyUps st.σ ups⟩
/-- What was left out leaves nothing in its slot. -/
def St.skip (st : St) (d : Option Nat) : St := ⟨put st.slots d (some (.tup .nil)), st.σ⟩
def St.know (st : St) (g : Nat) (p b : Bool) : St := ⟨put st.slots (some g) (some (.dat p .bool b)), st.σ⟩

def upsOk (an : Ann) (ups : Ups) : Bool := ups.all (fun p => memB an.touch p.1) && (!an.ro || ups.isEmpty)

section
variable (R : Type) (T : Tbl) (fns : Fns)

noncomputable def execK (ao : AOp) (st : St) (k : St → Option R) : Option R :=
  actK R T fns ao.o.op ao.an (opval ao.reads st.slots) (st.get ao.an.touch) fun v ups => bif upsOk ao.an ups then k (st.upd ao.o.dst v ups) else none

noncomputable def stepK (ao : AOp) (st : St) (k : St → Option R) : Option R :=
  match ao.guard with
  | none => execK R T fns ao st k
  | some (g, want) => match st.slots g with
    | some (.dat p .bool b) =>
      bif b then (bif want then execK R T fns ao (st.know g p true) k else k ((st.know g p true).skip ao.o.dst))
      else (bif want then k ((st.know g p false).skip ao.o.dst) else execK R T fns ao (st.know g p false) k)
    | some (.tup .nil) => k (st.skip ao.o.dst)
    | _ => none

noncomputable def stepsK : List AOp → St → (St → Option R) → Option R
  | [], st, k => k st
  | ao :: l, st, k => stepK R T fns ao st fun st' => stepsK l st' k
end

section
variable {P : Program} {T : Tbl} {fns : Fns} {R : Type}

/-- A step from one state to another. -/
def Leads (T : Tbl) (fns : Fns) (ao : AOp) (st st' : St) : Prop := ∀ (R : Type) (k : St → Option R), stepK R T fns ao st k = k st'

def gv (ao : AOp) (st : St) : Option Bool :=
  match ao.guard with
  | none => some true
  | some (g, want) => match st.slots g with
    | some (.dat _ .bool b) => some (b == want)
    | some (.tup .nil) => some false
    | _ => none

theorem know_same {st : St} {g : Nat} {p b : Bool} (h : st.slots g = some (.dat p .bool b)) : st.know g p b = st := by
  obtain ⟨s, σ⟩ := st
  simp only [St.know, put, St.mk.injEq, and_true]
  funext i
  cases hb : Nat.beq i g with
  | true => rw [Nat.eq_of_beq_eq_true hb]; exact h.symm
  | false => rfl

theorem stepK_eq (ao : AOp) (st : St) (k : St → Option R) : stepK R T fns ao st k = match gv ao st with
    | some true => execK R T fns ao st k
    | some false => k (st.skip ao.o.dst)
    | none => none := by
  unfold stepK gv
  split
  · rfl
  · rename_i g want hg
    split
    · rename_i p b hs
      cases b with
      | true => rw [know_same hs]; cases want <;> rfl
      | false => rw [know_same hs]; cases want <;> rfl
    · rfl
    · rfl

/-- What an operation comes to in a state. -/
def Comes (T : Tbl) (fns : Fns) (ao : AOp) (st : St) (v : AVal) (ups : Ups) : Prop :=
  ∀ (R : Type) (k : AVal → Ups → Option R), actK R T fns ao.o.op ao.an (opval ao.reads st.slots) (st.get ao.an.touch) k = k v ups

theorem stepK_inv (hfns : FnsOk P fns) {ao : AOp} {st : St} {k : St → Option R} {z : R} (h : stepK R T fns ao st k = some z) :
    ∃ st', k st' = some z ∧ Leads T fns ao st st' ∧ ((gv ao st = some false ∧ st' = st.skip ao.o.dst) ∨ (gv ao st = some true ∧ ∃ v ups, Comes T fns ao st v ups ∧ upsOk ao.an ups = true ∧ st' = st.upd ao.o.dst v ups)) := by
  rw [stepK_eq] at h
  cases hg : gv ao st with
  | none => rw [hg] at h; cases h
  | some b =>
    rw [hg] at h
    cases b with
    | false => exact ⟨_, h, fun R' k' => by rw [stepK_eq, hg], .inl ⟨rfl, rfl⟩⟩
    | true =>
      simp only at h
      unfold execK at h
      obtain ⟨⟨v, ups⟩, h1, h2⟩ := actK_cn T (st.get ao.an.touch) hfns ao.o.op ao.an (opval ao.reads st.slots) R (fun p => bif upsOk ao.an p.2 then k (st.upd ao.o.dst p.1 p.2) else none) z h
      obtain ⟨h3, h4⟩ := cond_some h1
      have hc : Comes T fns ao st v ups := fun R' k' => h2 R' fun p => k' p.1 p.2
      refine ⟨_, h4, fun R' k' => ?_, .inr ⟨rfl, v, ups, hc, h3, rfl⟩⟩
      rw [stepK_eq, hg]
      simp only
      unfold execK
      rw [hc]
      simp only at h3
      rw [h3]; rfl

theorem step_of_comes {ao : AOp} {st : St} {v : AVal} {ups : Ups} (hg : gv ao st = some true) (hc : Comes T fns ao st v ups) (hu : upsOk ao.an ups = true) : Leads T fns ao st (st.upd ao.o.dst v ups) := by
  intro R k
  rw [stepK_eq, hg]
  simp only
  unfold execK
  rw [hc, hu]; rfl

theorem step_of_skip {ao : AOp} {st : St} (hg : gv ao st = some false) : Leads T fns ao st (st.skip ao.o.dst) := by
  intro R k
  rw [stepK_eq, hg]

/-- May two operations change places? -/
def indep (x y : AOp) : Bool :=
  (match x.o.dst with | some d => !memB y.reads d && (match y.o.dst with | some e => !Nat.beq d e | none => true) | none => true) &&
  (match y.o.dst with | some d => !memB x.reads d | none => true) &&
  (((x.an.ro && y.an.ro) || x.an.touch.all (fun r => !memB y.an.touch r)) || (((addrOp x.o.op && storeOp y.o.op) || (storeOp x.o.op && addrOp y.o.op)) || lookEntry x.o.op y.o.op))

theorem put_other {s : Nat → Option AVal} {d : Option Nat} {v : Option AVal} {i : Nat} (h : d ≠ some i) : put s d v i = s i := by
  cases d with
  | none => rfl
  | some d =>
    simp only [put]
    cases hb : Nat.beq i d with
    | true => exact absurd (by rw [Nat.eq_of_beq_eq_true hb]) h
    | false => rfl

theorem opval_congr {reads : List Nat} {s s' : Nat → Option AVal} (h : ∀ i, i ∈ reads → s' i = s i) : opval reads s' = opval reads s := by
  funext o
  cases o with
  | tmp t =>
    simp only [opval]
    cases hb : memB reads t with
    | true => simp only [cond_true]; exact h t (memB_iff.1 hb)
    | false => rfl
  | _ => rfl

theorem gv_congr {ao : AOp} {st st' : St} (h : ∀ i, i ∈ ao.reads → st'.slots i = st.slots i) : gv ao st' = gv ao st := by
  unfold gv
  cases hg : ao.guard with
  | none => rfl
  | some q =>
    obtain ⟨g, want⟩ := q
    simp only
    rw [h g (by unfold AOp.reads; rw [hg]; simp)]

theorem get_congr {st st' : St} {touch : List Nat} (h : ∀ r, r ∈ touch → st'.σ[r]? = st.σ[r]?) : st'.get touch = st.get touch := by
  funext r
  unfold St.get
  cases hb : memB touch r with
  | true => simp only [cond_true]; exact h r (memB_iff.1 hb)
  | false => rfl

theorem applyUps_other : ∀ (ups : Ups) (σ : List AObj) (r : Nat), (∀ p ∈ ups, p.1 ≠ r) → (applyUps σ ups)[r]? = σ[r]? := by
  intro ups
  induction ups with
  | nil => intro σ r _; rfl
  | cons p ups ih =>
    intro σ r h
    show (applyUps (σ.set p.1 p.2) ups)[r]? = _
    rw [ih _ r fun q hq => h q (by simp [hq]), List.getElem?_set, if_neg (h p (by simp))]

theorem applyUps_set : ∀ (ups : Ups) (σ : List AObj) (r : Nat) (o : AObj), (∀ p ∈ ups, p.1 ≠ r) → applyUps (σ.set r o) ups = (applyUps σ ups).set r o := by
  intro ups
  induction ups with
  | nil => intro σ r o _; rfl
  | cons p ups ih =>
    intro σ r o h
    show applyUps ((σ.set r o).set p.1 p.2) ups = (applyUps (σ.set p.1 p.2) ups).set r o
    rw [List.set_comm _ _ (fun e => h p (by simp) e.symm), ih _ r o fun q hq => h q (by simp [hq])]

theorem applyUps_comm : ∀ (u v : Ups) (σ : List AObj), (∀ p ∈ u, ∀ q ∈ v, p.1 ≠ q.1) → applyUps (applyUps σ u) v = applyUps (applyUps σ v) u := by
  intro u
  induction u with
  | nil => intro v σ _; rfl
  | cons p u ih =>
    intro v σ h
    show applyUps (applyUps (σ.set p.1 p.2) u) v = applyUps ((applyUps σ v).set p.1 p.2) u
    rw [ih v _ fun q hq => h q (by simp [hq]), applyUps_set v σ p.1 p.2 fun q hq e => h p (by simp) q hq e.symm]

theorem put_comm {s : Nat → Option AVal} {d e : Option Nat} {u v : Option AVal} (h : ∀ i, d = some i → e ≠ some i) : put (put s d u) e v = put (put s e v) d u := by
  cases d with
  | none => rfl
  | some d =>
    cases e with
    | none => rfl
    | some e =>
      funext i
      simp only [put]
      cases h1 : Nat.beq i d <;> cases h2 : Nat.beq i e <;> simp only [cond_true, cond_false]
      exact absurd (by rw [← Nat.eq_of_beq_eq_true h1, ← Nat.eq_of_beq_eq_true h2]) (h d rfl)

/-- A store leaves the objects' shapes. -/
theorem store_get {x : AOp} {st : St} {v : AVal} {ups : Ups} (hs : storeOp x.o.op = true) (hc : Comes T fns x st v ups) (d : Option Nat) (touch : List Nat) : ∀ r, Shp (st.get touch r) ((st.upd d v ups).get touch r) := by
  obtain ⟨r0, ob, ob', e, hg, hsh⟩ := store_shape hs (hc _ fun v u => some (v, u))
  intro r
  unfold St.get
  cases hm : memB touch r with
  | false => exact .same _
  | true =>
    simp only [cond_true, St.upd, e, applyUps]
    have h0 : st.σ[r0]? = some ob := by
      unfold St.get at hg
      cases hm0 : memB x.an.touch r0 with
      | true => rw [hm0] at hg; exact hg
      | false => rw [hm0] at hg; cases hg
    by_cases hr : r0 = r
    · subst hr
      have hl : r0 < st.σ.length := (List.getElem?_eq_some_iff.1 h0).1
      rw [List.getElem?_set, if_pos rfl, if_pos hl, h0]; exact hsh
    · rw [List.getElem?_set, if_neg hr]; exact .same _

theorem addr_ups {y : AOp} {st : St} {v : AVal} {ups : Ups} (ha : addrOp y.o.op = true) (hc : Comes T fns y st v ups) : ups = [] := by
  have h1 := hc Ups fun _ u => some u
  rw [addr_plain ha] at h1
  have h2 := hc Ups fun _ _ => some []
  rw [h2] at h1
  cases h1; rfl

/-- Two that may change places do. -/
theorem step_swap (hfns : FnsOk P fns) {x y : AOp} (hi : indep x y = true) {st st1 st2 : St} (h1 : Leads T fns x st st1) (h2 : Leads T fns y st1 st2) : ∃ st1', Leads T fns y st st1' ∧ Leads T fns x st1' st2 := by
  unfold indep at hi
  rw [Bool.and_eq_true, Bool.and_eq_true] at hi
  obtain ⟨⟨ha, hb⟩, hc⟩ := hi
  have xy : ∀ i, i ∈ y.reads → x.o.dst ≠ some i := fun i hm e => by
    rw [e] at ha; simp only [Bool.and_eq_true] at ha
    rw [memB_iff.2 hm] at ha; cases ha.1
  have yx : ∀ i, i ∈ x.reads → y.o.dst ≠ some i := fun i hm e => by
    rw [e] at hb; simp only at hb
    rw [memB_iff.2 hm] at hb; cases hb
  have dd : ∀ i, x.o.dst = some i → y.o.dst ≠ some i := fun i e e' => by
    rw [e, e'] at ha; simp only [Bool.and_eq_true] at ha
    rw [Nat.beq_refl] at ha; cases ha.2
  obtain ⟨s1, e1, _, c1⟩ := stepK_inv hfns (h1 St some)
  cases e1
  obtain ⟨s2, e2, _, c2⟩ := stepK_inv hfns (h2 St some)
  cases e2
  -- the first one's mark on the second one's reading: none
  have uo : ∀ {an : Ann} {ups : Ups}, upsOk an ups = true → (∀ p ∈ ups, p.1 ∈ an.touch) ∧ (an.ro = true → ups = []) := by
    intro an ups h
    unfold upsOk at h
    rw [Bool.and_eq_true] at h
    refine ⟨fun p hp => memB_iff.1 (List.all_eq_true.1 h.1 p hp), fun hr => ?_⟩
    have := h.2
    rw [hr] at this
    exact List.isEmpty_iff.1 (by simpa using this)
  have tt : ((x.an.ro && y.an.ro) || x.an.touch.all (fun r => !memB y.an.touch r)) = true → ∀ {u v : Ups}, upsOk x.an u = true → upsOk y.an v = true → (∀ r ∈ y.an.touch, ∀ p ∈ u, p.1 ≠ r) ∧ (∀ r ∈ x.an.touch, ∀ p ∈ v, p.1 ≠ r) := by
    intro hc u v hu hv
    obtain ⟨u1, u2⟩ := uo hu
    obtain ⟨v1, v2⟩ := uo hv
    rcases Bool.or_eq_true_iff.1 hc with h | h
    · rw [Bool.and_eq_true] at h
      rw [u2 h.1, v2 h.2]
      exact ⟨(fun _ _ p hp => by cases hp), (fun _ _ p hp => by cases hp)⟩
    · have hd : ∀ r, r ∈ x.an.touch → r ∉ y.an.touch := fun r h1 h2 => by
        have := List.all_eq_true.1 h r h1
        rw [memB_iff.2 h2] at this; cases this
      exact ⟨fun r hr p hp e => hd p.1 (u1 p hp) (e ▸ hr), fun r hr p hp e => hd r hr (e ▸ v1 p hp)⟩
  have slotsX : ∀ (v : Option AVal) (i : Nat), i ∈ y.reads → put st.slots x.o.dst v i = st.slots i := fun v i hm => put_other (xy i hm)
  have slotsY : ∀ (v : Option AVal) (i : Nat), i ∈ x.reads → put st.slots y.o.dst v i = st.slots i := fun v i hm => put_other (yx i hm)
  rcases c1 with ⟨g1, rfl⟩ | ⟨g1, v1, u1, k1, o1, rfl⟩
  · have hgy : gv y (st.skip x.o.dst) = gv y st := gv_congr fun i hm => slotsX (some (.tup .nil)) i hm
    rcases c2 with ⟨g2, rfl⟩ | ⟨g2, v2, u2, k2, o2, rfl⟩
    · rw [hgy] at g2
      refine ⟨_, step_of_skip g2, ?_⟩
      have hgx : gv x (st.skip y.o.dst) = gv x st := gv_congr fun i hm => slotsY (some (.tup .nil)) i hm
      have := step_of_skip (T := T) (fns := fns) (hgx.trans g1)
      have e : (st.skip y.o.dst).skip x.o.dst = (st.skip x.o.dst).skip y.o.dst := by
        simp only [St.skip, St.mk.injEq, and_true]; exact put_comm fun i e e' => dd i e' e
      rw [e] at this; exact this
    · rw [hgy] at g2
      have k2' : Comes T fns y st v2 u2 := fun R k => by
        have := k2 R k
        rw [opval_congr (s := st.slots) (s' := (st.skip x.o.dst).slots) (fun i hm => slotsX (some (.tup .nil)) i hm)] at this
        exact this
      refine ⟨_, step_of_comes g2 k2' o2, ?_⟩
      have hgx : gv x (st.upd y.o.dst v2 u2) = gv x st := gv_congr fun i hm => slotsY (some v2) i hm
      have := step_of_skip (T := T) (fns := fns) (hgx.trans g1)
      have e : (st.upd y.o.dst v2 u2).skip x.o.dst = (st.skip x.o.dst).upd y.o.dst v2 u2 := by
        simp only [St.skip, St.upd, St.mk.injEq, and_true]; exact put_comm fun i e e' => dd i e' e
      rw [e] at this; exact this
  · have hgy : gv y (st.upd x.o.dst v1 u1) = gv y st := gv_congr fun i hm => slotsX (some v1) i hm
    rcases c2 with ⟨g2, rfl⟩ | ⟨g2, v2, u2, k2, o2, rfl⟩
    · rw [hgy] at g2
      refine ⟨_, step_of_skip g2, ?_⟩
      have hgx : gv x (st.skip y.o.dst) = gv x st := gv_congr fun i hm => slotsY (some (.tup .nil)) i hm
      have k1' : Comes T fns x (st.skip y.o.dst) v1 u1 := fun R k => by
        have := k1 R k
        rw [← opval_congr (s := st.slots) (s' := (st.skip y.o.dst).slots) (fun i hm => slotsY (some (.tup .nil)) i hm)] at this
        exact this
      have := step_of_comes (hgx.trans g1) k1' o1
      have e : (st.skip y.o.dst).upd x.o.dst v1 u1 = (st.upd x.o.dst v1 u1).skip y.o.dst := by
        simp only [St.skip, St.upd, St.mk.injEq, and_true]; exact put_comm fun i e e' => dd i e' e
      rw [e] at this; exact this
    · rw [hgy] at g2
      -- what the one comes to does not hang on the other
      obtain ⟨k2', k1', ecomm⟩ : Comes T fns y st v2 u2 ∧ Comes T fns x (st.upd y.o.dst v2 u2) v1 u1 ∧ applyUps (applyUps st.σ u2) u1 = applyUps (applyUps st.σ u1) u2 := by
        rcases Bool.or_eq_true_iff.1 hc with hc | hc
        · obtain ⟨t1, t2⟩ := tt hc o1 o2
          refine ⟨fun R k => ?_, fun R k => ?_, applyUps_comm u2 u1 st.σ fun p hp q hq e => ?_⟩
          · have := k2 R k
            rw [opval_congr (s := st.slots) (s' := (st.upd x.o.dst v1 u1).slots) (fun i hm => slotsX (some v1) i hm), get_congr (st := st) (st' := st.upd x.o.dst v1 u1) (fun r hr => applyUps_other u1 st.σ r (t1 r hr))] at this
            exact this
          · have := k1 R k
            rw [← opval_congr (s := st.slots) (s' := (st.upd y.o.dst v2 u2).slots) (fun i hm => slotsY (some v2) i hm), ← get_congr (st := st) (st' := st.upd y.o.dst v2 u2) (fun r hr => applyUps_other u2 st.σ r (t2 r hr))] at this
            exact this
          · obtain ⟨w1, _⟩ := uo o2
            exact t1 p.1 (w1 p hp) q hq e.symm
        rcases Bool.or_eq_true_iff.1 hc with hc | hc
        case inr.inr =>
          obtain ⟨t, a1, a2, b1, b2, ex, ey⟩ := lookEntry_inv hc
          -- the lookup's and the entry's own runs
          have kx : ∃ v u, opval x.reads st.slots a1 = some v ∧ opval x.reads st.slots a2 = some u ∧ ∀ (R : Type) (k : AVal → Ups → Option R), actLook T (st.get x.an.touch) t v u false k = k v1 u1 := by
            have h0 := k1 (AVal × Ups) fun v u => some (v, u)
            rw [ex] at h0
            have h0 : (match opval x.reads st.slots a1, opval x.reads st.slots a2 with | some u, some v => actLook T (st.get x.an.touch) t u v false (fun v u => some (v, u)) | _, _ => none) = some (v1, u1) := h0
            cases ha1 : opval x.reads st.slots a1 with
            | none => rw [ha1] at h0; cases h0
            | some v =>
              cases ha2 : opval x.reads st.slots a2 with
              | none => rw [ha1, ha2] at h0; cases h0
              | some u =>
                refine ⟨v, u, rfl, rfl, fun R k => ?_⟩
                have h1 := k1 R k
                rw [ex] at h1
                have h1 : (match opval x.reads st.slots a1, opval x.reads st.slots a2 with | some u, some v => actLook T (st.get x.an.touch) t u v false k | _, _ => none) = k v1 u1 := h1
                rw [ha1, ha2] at h1
                exact h1
          obtain ⟨v, u, ha1, ha2, kx⟩ := kx
          have k2s : Comes T fns y ⟨st.slots, applyUps st.σ u1⟩ v2 u2 := fun R k => by
            have := k2 R k
            rw [opval_congr (s := st.slots) (s' := (st.upd x.o.dst v1 u1).slots) (fun i hm => slotsX (some v1) i hm)] at this
            exact this
          have e1 : u1 = [] := look_ups kx
          subst e1
          have ky : ∃ v u, ∀ (R : Type) (k : AVal → Ups → Option R), actMapEntry T (st.get y.an.touch) t v u k = k v2 u2 := by
            have h0 := k2s (AVal × Ups) fun v u => some (v, u)
            rw [ey] at h0
            have h0 : (match opval y.reads st.slots b1, opval y.reads st.slots b2 with | some u, some v => actMapEntry T (st.get y.an.touch) t u v (fun v u => some (v, u)) | _, _ => none) = some (v2, u2) := h0
            cases hb1 : opval y.reads st.slots b1 with
            | none => rw [hb1] at h0; cases h0
            | some v =>
              cases hb2 : opval y.reads st.slots b2 with
              | none => rw [hb1, hb2] at h0; cases h0
              | some u =>
                refine ⟨v, u, fun R k => ?_⟩
                have h1 := k2s R k
                rw [ey] at h1
                have h1 : (match opval y.reads st.slots b1, opval y.reads st.slots b2 with | some u, some v => actMapEntry T (st.get y.an.touch) t u v k | _, _ => none) = k v2 u2 := h1
                rw [hb1, hb2] at h1
                exact h1
          obtain ⟨v', u', ky⟩ := ky
          obtain ⟨_, kx'⟩ := look_behind2 (get' := (st.upd y.o.dst v2 u2).get x.an.touch) kx ky (fun r ob ob' h h' => by
              unfold St.get at h h'
              cases m1 : memB x.an.touch r with
              | false => rw [m1] at h; cases h
              | true =>
                cases m2 : memB y.an.touch r with
                | false => rw [m2] at h'; cases h'
                | true => rw [m1] at h; rw [m2] at h'; exact Option.some.inj (h.symm.trans h'))
            (fun r hr => by
              unfold St.get St.upd
              simp only
              rw [applyUps_other u2 st.σ r hr])
            (fun r ob o0 h0 e => by
              unfold St.get at h0 ⊢
              cases m1 : memB x.an.touch r with
              | false => rw [m1] at h0; cases h0
              | true =>
                rw [m1] at h0
                have hlt : r < st.σ.length := (List.getElem?_eq_some_iff.1 (show st.σ[r]? = some o0 from h0)).1
                simp only [cond_true, St.upd, e, applyUps]
                rw [List.getElem?_set, if_pos rfl, if_pos hlt])
          refine ⟨k2s, fun R k => ?_, rfl⟩
          have h1 := kx' R k
          show actK R T fns x.o.op x.an (opval x.reads (put st.slots y.o.dst (some v2))) _ k = _
          rw [opval_congr (s := st.slots) (s' := put st.slots y.o.dst (some v2)) (fun i hm => slotsY (some v2) i hm), ex]
          show (match opval x.reads st.slots a1, opval x.reads st.slots a2 with | some u, some v => actLook T ((st.upd y.o.dst v2 u2).get x.an.touch) t u v false k | _, _ => none) = _
          rw [ha1, ha2]
          exact h1
        case inr.inl =>
          rcases Bool.or_eq_true_iff.1 hc with hc | hc <;> rw [Bool.and_eq_true] at hc
          · have e1 := addr_ups hc.1 k1
            subst e1
            have k2' : Comes T fns y st v2 u2 := fun R k => by
              have := k2 R k
              rw [opval_congr (s := st.slots) (s' := (st.upd x.o.dst v1 []).slots) (fun i hm => slotsX (some v1) i hm)] at this
              exact this
            refine ⟨k2', fun R k => ?_, rfl⟩
            have := k1 R k
            rw [← opval_congr (s := st.slots) (s' := (st.upd y.o.dst v2 u2).slots) (fun i hm => slotsY (some v2) i hm), addr_shape hc.1 (store_get hc.2 k2' y.o.dst x.an.touch)] at this
            exact this
          · have k2' : Comes T fns y st v2 u2 := fun R k => by
              have := k2 R k
              rw [opval_congr (s := st.slots) (s' := (st.upd x.o.dst v1 u1).slots) (fun i hm => slotsX (some v1) i hm), ← addr_shape hc.2 (store_get hc.1 k1 x.o.dst y.an.touch)] at this
              exact this
            have e2 := addr_ups hc.2 k2'
            subst e2
            refine ⟨k2', fun R k => ?_, rfl⟩
            have := k1 R k
            rw [← opval_congr (s := st.slots) (s' := (st.upd y.o.dst v2 []).slots) (fun i hm => slotsY (some v2) i hm)] at this
            exact this
      refine ⟨_, step_of_comes g2 k2' o2, ?_⟩
      have hgx : gv x (st.upd y.o.dst v2 u2) = gv x st := gv_congr fun i hm => slotsY (some v2) i hm
      have := step_of_comes (hgx.trans g1) k1' o1
      have e : (st.upd y.o.dst v2 u2).upd x.o.dst v1 u1 = (st.upd x.o.dst v1 u1).upd y.o.dst v2 u2 := by
        simp only [St.upd, St.mk.injEq]
        exact ⟨put_comm fun i e e' => dd i e' e, ecomm⟩
      rw [e] at this; exact this

/-- One that may go ahead of all those before it does. -/
theorem steps_pull (hfns : FnsOk P fns) {y : AOp} : ∀ (p : List AOp) (q : List AOp) (st : St) (k : St → Option R) (z : R), (∀ x ∈ p, indep x y = true) → stepsK R T fns (p ++ y :: q) st k = some z →
    ∃ st', Leads T fns y st st' ∧ stepsK R T fns (p ++ q) st' k = some z := by
  intro p
  induction p with
  | nil =>
    intro q st k z _ h
    obtain ⟨st', h1, h2, _⟩ := stepK_inv hfns (show stepK R T fns y st _ = some z from h)
    exact ⟨st', h2, h1⟩
  | cons x p ih =>
    intro q st k z hi h
    obtain ⟨st1, h1, h2, _⟩ := stepK_inv hfns (show stepK R T fns x st _ = some z from h)
    obtain ⟨st2, h3, h4⟩ := ih q st1 k z (fun x' hx' => hi x' (by simp [hx'])) h1
    obtain ⟨st1', h5, h6⟩ := step_swap hfns (hi x (by simp)) h2 h3
    refine ⟨st1', h5, ?_⟩
    show stepK R T fns x st1' _ = some z
    rw [h6]; exact h4
end
end Go.Am

/- The abstract machine, twenty-second part: regions. -/
namespace Go.Am

/-- Each mark is of a block behind which nothing is deferred, and that is none of the context's. -/
structure Marked (x : Ctx) (w0 w : World) (ds : List Deferred) : Prop where
  each : ∀ d ∈ ds, ∃ D, d = { target := .collected D, args := #[] } ∧ w0.heap.size ≤ D ∧ D < w.heap.size ∧ w.heap[D]? = some (.deferred (some [])) ∧ ¬ Owned x D ∧ ∀ p, ¬ x.S p D
  apart : ds.Pairwise fun d e => d.target ≠ e.target
theorem Marked.nil (x : Ctx) (w0 w : World) : Marked x w0 w [] := ⟨(by intro d h; cases h), List.Pairwise.nil⟩
theorem Marked.goes {x x' : Ctx} {w0 w w' : World} {ds : List Deferred} (M : Marked x w0 w ds) (G : Goes x w x' w') : Marked x' w0 w' ds := by
  refine ⟨fun d hd => ?_, M.apart⟩
  obtain ⟨D, h1, h2, h3, h4, h5, h6⟩ := M.each d hd
  refine ⟨D, h1, h2, Nat.lt_of_lt_of_le h3 G.size, (G.frame D h3 h5).trans h4, fun ho => ?_, fun p hp => ?_⟩
  · rcases G.own D ho with h | h
    · exact h5 h
    · omega
  · rcases G.newS p D hp with h | h | h
    · exact h6 p h
    · exact h5 h
    · omega

/-- A state, and what the model has: since the call began in x0, w0. -/
structure Conc (x0 : Ctx) (w0 : World) (N : Nat) (st : St) (a : Act) (w : World) : Prop where
  state : ∃ x, x.σ = st.σ ∧ Goes x0 w0 x w ∧ Marked x w0 w a.defers ∧ ∀ i v, st.slots i = some v → ∃ u, a.tmps[i]? = some u ∧ v.V x u
  size : a.tmps.size = N

def guardOk (ops : List AOp) (ao : AOp) : Bool :=
  match ao.o.guard, ao.guard with
  | none, none => true
  | some (j, w), some (g, w') => w == w' && (match ops[j]? with | some o => (match o.o.dst with | some d => Nat.beq d g | none => false) | none => false)
  | _, _ => false

def dstOk (N : Nat) (ao : AOp) : Bool := match ao.o.dst with | some d => Nat.blt d N | none => true

section
variable {P : Program} {T : Tbl} {fns : Fns} {R : Type} {x0 : Ctx} {w0 : World} {N : Nat}

theorem put_tmps {a : Act} {d : Option Nat} {v : Value} : (a.put d v).tmps.size = a.tmps.size ∧ (a.put d v).defers = a.defers := by
  cases d <;> simp [Act.put]

theorem put_at {a : Act} {d : Option Nat} {v : Value} {i : Nat} (hd : ∀ e, d = some e → e < a.tmps.size) : (a.put d v).tmps[i]? = if d = some i then some v else a.tmps[i]? := by
  cases d with
  | none => simp [Act.put]
  | some d =>
    simp only [Act.put, Option.some.injEq, Array.setIfInBounds]
    have := hd d rfl
    rw [dif_pos this, Array.getElem?_set]

theorem dst_lt {ao : AOp} {n : Nat} (h : dstOk n ao = true) : ∀ d, ao.o.dst = some d → d < n := by
  intro d hd
  unfold dstOk at h
  rw [hd] at h
  exact of_decide_eq_true (by simpa [Nat.blt_eq] using h)

theorem conc_upd {st : St} {a : Act} {w w' : World} {x x' : Ctx} {ao : AOp} {v : AVal} {u : Value} {ups : Ups} (hN : dstOk N ao = true) (hσ : x.σ = st.σ) (G : Goes x0 w0 x w) (hs : ∀ i v, st.slots i = some v → ∃ u, a.tmps[i]? = some u ∧ v.V x u)
    (hsz : a.tmps.size = N) (hdf : Marked x w0 w a.defers) (G' : Goes x w x' w') (hσ' : x'.σ = applyUps x.σ ups) (hv : v.V x' u) : Conc x0 w0 N (st.upd ao.o.dst v ups) (a.put ao.o.dst u) w' := by
  refine ⟨⟨x', by rw [hσ', hσ]; rfl, G.trans G', (by rw [put_tmps.2]; exact hdf.goes G'), fun i av h => ?_⟩, by rw [put_tmps.1, hsz]⟩
  rw [put_at (fun e he => by rw [hsz]; exact dst_lt hN e he)]
  by_cases hd : ao.o.dst = some i
  · rw [if_pos hd]
    have h : put st.slots ao.o.dst (some v) i = some av := h
    rw [hd] at h
    simp only [put, Nat.beq_refl, cond_true, Option.some.injEq] at h
    subst h
    exact ⟨u, rfl, hv⟩
  · rw [if_neg hd]
    have h : put st.slots ao.o.dst (some v) i = some av := h
    rw [put_other hd] at h
    obtain ⟨u', h1, h2⟩ := hs i av h
    exact ⟨u', h1, h2.mono G'.S G'.keeps⟩

theorem conc_skip {st : St} {a : Act} {w : World} {ao : AOp} (hN : dstOk N ao = true) (C : Conc x0 w0 N st a w) : Conc x0 w0 N (st.skip ao.o.dst) (a.put ao.o.dst undef) w := by
  obtain ⟨⟨x, hσ, G, hdf, hs⟩, hsz⟩ := C
  refine ⟨⟨x, hσ, G, (by rw [put_tmps.2]; exact hdf), fun i av h => ?_⟩, by rw [put_tmps.1, hsz]⟩
  rw [put_at (fun e he => by rw [hsz]; exact dst_lt hN e he)]
  have h : put st.slots ao.o.dst (some (.tup .nil)) i = some av := h
  by_cases hd : ao.o.dst = some i
  · rw [if_pos hd]
    rw [hd] at h
    simp only [put, Nat.beq_refl, cond_true, Option.some.injEq] at h
    subst h
    exact ⟨undef, rfl, ⟨[], rfl, rfl⟩⟩
  · rw [if_neg hd]
    rw [put_other hd] at h
    exact hs i av h

/-- One operation of a region. -/
theorem lead_sound (hT : TblOk P T) (hfns : FnsOk P fns) {ops : List AOp} {ao : AOp} {i : Nat} (hi : ops[i]? = some ao) (hN : dstOk N ao = true) (hgd : guardOk ops ao = true) {st st' : St} (h : Leads T fns ao st st') {a : Act} {w : World} (C : Conc x0 w0 N st a w)
    {K : Act → World → Prop} {Q : Exit → Act → World → Prop} (hK : ∀ a' w', Conc x0 w0 N st' a' w' → K a' w') : wpOp P (ops.map (·.o)).toArray Q i K a w := by
  obtain ⟨s1, e1, _, hc⟩ := stepK_inv hfns (h St some)
  cases e1
  have hop : (ops.map (·.o)).toArray[i]? = some ao.o := by simp [hi]
  -- whether it is done, in both
  have hw : ∀ b, gv ao st = some b → Region.wanted ao.o (yielded (ops.map (·.o)).toArray a.tmps) = b := by
    intro b hb
    unfold gv at hb
    unfold guardOk at hgd
    unfold Region.wanted
    split at hgd
    · rename_i h1 h2
      rw [h2] at hb; cases hb
      rw [h1]
    · rename_i j want g want' h1 h2
      rw [h2] at hb
      rw [h1]
      rw [Bool.and_eq_true] at hgd
      obtain ⟨hw, hgd⟩ := hgd
      obtain rfl : want = want' := by simpa using hw
      simp only at hb ⊢
      split at hb
      · rename_i p bb hs
        cases hb
        split at hgd
        · rename_i oj hoj
          split at hgd
          · rename_i d hd
            obtain rfl := Nat.eq_of_beq_eq_true hgd
            obtain ⟨x, _, _, _, hsl⟩ := C.state
            obtain ⟨u, h3, h4⟩ := hsl d _ hs
            have hu := V_bool.1 h4
            subst hu
            have : yielded (ops.map (·.o)).toArray a.tmps j = some bb := by
              unfold yielded
              have e1 : (ops.map (·.o)).toArray[j]? = some oj.o := by simp [hoj]
              rw [e1]
              simp only [Option.bind_some, hd, h3]
            rw [this]
            cases bb <;> cases want <;> rfl
          · cases hgd
        · cases hgd
      · rename_i hs
        cases hb
        split at hgd
        · rename_i oj hoj
          split at hgd
          · rename_i d hd
            obtain rfl := Nat.eq_of_beq_eq_true hgd
            obtain ⟨x, _, _, _, hsl⟩ := C.state
            obtain ⟨u, h3, us, h4, h5⟩ := hsl d _ hs
            obtain rfl : us = [] := h5
            simp only [List.cons.injEq, and_true] at h4
            subst h4
            have : yielded (ops.map (·.o)).toArray a.tmps j = none := by
              unfold yielded
              have e1 : (ops.map (·.o)).toArray[j]? = some oj.o := by simp [hoj]
              rw [e1]
              simp only [Option.bind_some, hd, h3]
            rw [this]
            rfl
          · cases hgd
        · cases hgd
      · cases hb
    · cases hgd
  unfold wpOp
  rw [hop]
  simp only
  rcases hc with ⟨hg, rfl⟩ | ⟨hg, v, ups, hcomes, hups, rfl⟩
  · rw [hw false hg]
    simp only [Bool.false_eq_true, if_false]
    exact hK _ _ (conc_skip hN C)
  · rw [hw true hg]
    simp only [if_true]
    obtain ⟨⟨x, hσ, G, hdf, hs⟩, hsz⟩ := C
    have hM : Meets P T (opval ao.reads st.slots) (st.get ao.an.touch) a w x := {
      tbl := hT
      mem := G.mem
      h := G.h
      val := fun o v ho => by
        cases o with
        | tmp t =>
          simp only [opval] at ho
          obtain ⟨_, ho⟩ := cond_some ho
          obtain ⟨u, h1, h2⟩ := hs t v ho
          have : a.eval (.tmp t) = u := by simp [Act.eval, Array.getD_eq_getD_getElem?, h1]
          rw [this]; exact h2
        | const c => exact constVal_V ho
        | func f => cases ho; exact ⟨[], rfl, rfl⟩
        | global g => cases ho
      obj := fun r ob ho => by
        unfold St.get at ho
        rw [hσ]; exact (cond_some ho).2 }
    obtain ⟨u, ups', hz, hact⟩ := actK_ok hfns hM ao.o ao.an (k := fun v u => some (v, u)) (z := (v, ups)) (hcomes _ _)
    cases hz
    refine .inl (hact K Q fun u w' x' G' hσ' hv => hK _ _ ?_)
    exact conc_upd hN hσ G hs hsz hdf G' hσ' hv

/-- The operations in the text's order. -/
theorem steps_sound (hT : TblOk P T) (hfns : FnsOk P fns) (ops : List AOp) (hN : ∀ ao ∈ ops, dstOk N ao = true) (hgd : ∀ ao ∈ ops, guardOk ops ao = true) {Q : Exit → Act → World → Prop} {k : St → Option R} {z : R} :
    ∀ (l : List AOp) (i : Nat), ops.drop i = l → ∀ (st : St) (a : Act) (w : World), stepsK R T fns l st k = some z → Conc x0 w0 N st a w → (∀ st' a' w', k st' = some z → Conc x0 w0 N st' a' w' → Q .normal a' w') →
      wpOps P (ops.map (·.o)).toArray Q (List.range' i l.length) a w := by
  intro l
  induction l with
  | nil => intro i _ st a w h C hQ; exact hQ st a w h C
  | cons ao l ih =>
    intro i hd st a w h C hQ
    have hi : ops[i]? = some ao := by
      have := congrArg (·[0]?) hd
      simpa using this
    have hm := List.mem_of_getElem? hi
    obtain ⟨st', h1, h2, _⟩ := stepK_inv hfns (show stepK R T fns ao st _ = some z from h)
    rw [List.length_cons, List.range'_succ, wpOps_cons]
    refine lead_sound hT hfns hi (hN ao hm) (hgd ao hm) h2 C fun a' w' C' => ?_
    refine ih (i + 1) ?_ st' a' w' h1 C' hQ
    rw [← List.drop_drop, hd]; rfl
end
end Go.Am

/- The abstract machine, twenty-third part: a region whose order is drawn. -/
namespace Go.Am

def maskOf (acc : List Nat) (o : Oper) : Nat := o.after.toList.foldl (fun s e => bif Region.binds .any e then s ||| 2 ^ e.on ||| acc.getD e.on 0 else s) 0

def allAt (f : Nat → AOp → Bool) : Nat → List AOp → Bool
  | _, [] => true
  | i, x :: l => f i x && allAt f (i + 1) l

def ordGo (prev : List AOp) (acc : List Nat) : List AOp → Bool
  | [] => true
  | x :: l => x.o.after.toList.all (fun e => !Region.binds .any e || Nat.blt e.on acc.length) && allAt (fun j y => Nat.testBit (maskOf acc x.o) j || indep y x) 0 prev && ordGo (prev ++ [x]) (acc ++ [maskOf acc x.o]) l

theorem allAt_get {f : Nat → AOp → Bool} : ∀ (l : List AOp) (n : Nat), allAt f n l = true → ∀ j y, l[j]? = some y → f (n + j) y = true := by
  intro l
  induction l with
  | nil => intro n _ j y h; simp at h
  | cons x l ih =>
    intro n h j y hj
    simp only [allAt, Bool.and_eq_true] at h
    cases j with
    | zero => simp at hj; subst hj; exact h.1
    | succ j =>
      have := ih (n + 1) h.2 j y (by simpa using hj)
      rw [Nat.add_assoc, Nat.add_comm 1 j] at this; exact this

theorem maskOf_bit {acc : List Nat} {o : Oper} {j : Nat} (h : Nat.testBit (maskOf acc o) j = true) :
    ∃ e ∈ o.after.toList, Region.binds .any e = true ∧ (j = e.on ∨ Nat.testBit (acc.getD e.on 0) j = true) := by
  have gen : ∀ (l : List Edge) (s : Nat), Nat.testBit (l.foldl (fun s e => bif Region.binds .any e then s ||| 2 ^ e.on ||| acc.getD e.on 0 else s) s) j = true → Nat.testBit s j = true ∨ ∃ e ∈ l, Region.binds .any e = true ∧ (j = e.on ∨ Nat.testBit (acc.getD e.on 0) j = true) := by
    intro l
    induction l with
    | nil => intro s h; exact .inl h
    | cons e l ih =>
      intro s h
      rcases ih _ h with h | ⟨e', he, h'⟩
      · simp only at h
        cases hb : Region.binds .any e with
        | false => rw [hb] at h; exact .inl h
        | true =>
          rw [hb, cond_true, Nat.testBit_or, Nat.testBit_or, Bool.or_eq_true, Bool.or_eq_true] at h
          rcases h with (h | h) | h
          · exact .inl h
          · exact .inr ⟨e, by simp, hb, .inl (by rw [Nat.testBit_two_pow] at h; exact (of_decide_eq_true h).symm)⟩
          · exact .inr ⟨e, by simp, hb, .inr h⟩
      · exact .inr ⟨e', by simp [he], h'⟩
  rcases gen _ 0 h with h | h
  · simp at h
  · exact h

structure Good (ops : List AOp) (acc : List Nat) : Prop where
  len : acc.length = ops.length
  at_ : ∀ i x, ops[i]? = some x → (∀ e ∈ x.o.after.toList, Region.binds .any e = true → e.on < i) ∧
    (∀ j y, j < i → ops[j]? = some y → Nat.testBit (acc.getD i 0) j = true ∨ indep y x = true) ∧
    (∀ j, Nat.testBit (acc.getD i 0) j = true → ∃ e ∈ x.o.after.toList, Region.binds .any e = true ∧ e.on < i ∧ (j = e.on ∨ Nat.testBit (acc.getD e.on 0) j = true))

theorem ordGo_good : ∀ (l prev : List AOp) (acc : List Nat), Good prev acc → ordGo prev acc l = true → ∃ acc', Good (prev ++ l) acc' := by
  intro l
  induction l with
  | nil => intro prev acc G _; exact ⟨acc, by simpa using G⟩
  | cons x l ih =>
    intro prev acc G h
    simp only [ordGo, Bool.and_eq_true] at h
    obtain ⟨⟨h1, h2⟩, h3⟩ := h
    have he : ∀ e ∈ x.o.after.toList, Region.binds .any e = true → e.on < acc.length := fun e hm hb => by
      have := List.all_eq_true.1 h1 e hm
      rw [hb] at this
      simpa [Nat.blt_eq] using this
    suffices hg : Good (prev ++ [x]) (acc ++ [maskOf acc x.o]) by
      obtain ⟨acc', G'⟩ := ih (prev ++ [x]) (acc ++ [maskOf acc x.o]) hg h3
      exact ⟨acc', by simpa using G'⟩
    · have gd : ∀ i, i < acc.length → (acc ++ [maskOf acc x.o]).getD i 0 = acc.getD i 0 := fun i hi => by
        simp only [List.getD_eq_getElem?_getD, List.getElem?_append_left hi]
      refine ⟨by simp [G.len], fun i y hy => ?_⟩
      rcases Nat.lt_or_ge i prev.length with hi | hi
      · rw [List.getElem?_append_left hi] at hy
        obtain ⟨g1, g2, g3⟩ := G.at_ i y hy
        refine ⟨g1, fun j z hj hz => ?_, fun j hj => ?_⟩
        · rw [List.getElem?_append_left (Nat.lt_trans hj hi)] at hz
          rw [gd i (by rw [G.len]; exact hi)]
          exact g2 j z hj hz
        · rw [gd i (by rw [G.len]; exact hi)] at hj
          obtain ⟨e, e1, e2, e3, e4⟩ := g3 j hj
          exact ⟨e, e1, e2, e3, by rw [gd _ (by rw [G.len]; exact Nat.lt_trans e3 hi)]; exact e4⟩
      · obtain rfl : i = prev.length := by
          have := (List.getElem?_eq_some_iff.1 hy).1
          simp at this; omega
        simp at hy
        subst hy
        have gi : (acc ++ [maskOf acc x.o]).getD prev.length 0 = maskOf acc x.o := by
          simp [List.getD_eq_getElem?_getD, ← G.len]
        refine ⟨fun e hm hb => by rw [← G.len]; exact he e hm hb, fun j z hj hz => ?_, fun j hj => ?_⟩
        · rw [List.getElem?_append_left hj] at hz
          have := allAt_get prev 0 h2 j z hz
          rw [Nat.zero_add, Bool.or_eq_true] at this
          rw [gi]; exact this
        · rw [gi] at hj
          obtain ⟨e, e1, e2, e3⟩ := maskOf_bit hj
          exact ⟨e, e1, e2, by rw [← G.len]; exact he e e1 e2, by rw [gd _ (he e e1 e2)]; exact e3⟩

theorem good_of (ops : List AOp) (h : ordGo [] [] ops = true) : ∃ acc, Good ops acc := by
  obtain ⟨acc, G⟩ := ordGo_good ops [] [] ⟨rfl, fun i x hx => by simp at hx⟩ h
  exact ⟨acc, by simpa using G⟩

section
variable {P : Program} {T : Tbl} {fns : Fns} {R : Type} {x0 : Ctx} {w0 : World} {N : Nat}

/-- What is not yet taken. -/
def leftOf (n : Nat) (listed : Array Bool) : List Nat := (List.range n).filter fun i => !listed.getD i true

theorem Good.before {ops : List AOp} {acc : List Nat} (G : Good ops acc) {listed : Array Bool} (hcl : ∀ i x, ops[i]? = some x → listed.getD i true = true → ∀ e ∈ x.o.after.toList, Region.binds .any e = true → listed.getD e.on false = true) (hsz : listed.size = ops.length) :
    ∀ (i : Nat) (x : AOp), ops[i]? = some x → (∀ e ∈ x.o.after.toList, Region.binds .any e = true → listed.getD e.on false = true) → ∀ j, Nat.testBit (acc.getD i 0) j = true → listed.getD j false = true := by
  intro i
  induction i using Nat.strongRecOn with
  | _ i ih =>
    intro x hx hr j hj
    obtain ⟨e, e1, e2, e3, e4⟩ := (G.at_ i x hx).2.2 j hj
    rcases e4 with rfl | e4
    · exact hr e e1 e2
    · have hl := hr e e1 e2
      have hi := (List.getElem?_eq_some_iff.1 hx).1
      obtain ⟨y, hy⟩ : ∃ y, ops[e.on]? = some y := ⟨ops[e.on]'(by omega), List.getElem?_eq_getElem _⟩
      refine ih e.on e3 y hy (hcl e.on y hy ?_) j e4
      have : e.on < listed.size := by omega
      simp only [Array.getD, this, dite_true] at hl ⊢
      exact hl

theorem any_sound (hT : TblOk P T) (hfns : FnsOk P fns) (ops : List AOp) {acc : List Nat} (G : Good ops acc) (hN : ∀ ao ∈ ops, dstOk N ao = true) (hgd : ∀ ao ∈ ops, guardOk ops ao = true) {Q : Exit → Act → World → Prop} {k : St → Option R} {z : R}
    (hQ : ∀ st' a' w', k st' = some z → Conc x0 w0 N st' a' w' → Q .normal a' w') :
    ∀ (fuel : Nat) (listed : Array Bool) (st : St) (a : Act) (w : World), listed.size = ops.length → (leftOf ops.length listed).length ≤ fuel →
      (∀ i x, ops[i]? = some x → listed.getD i true = true → ∀ e ∈ x.o.after.toList, Region.binds .any e = true → listed.getD e.on false = true) →
      stepsK R T fns ((leftOf ops.length listed).filterMap (ops[·]?)) st k = some z → Conc x0 w0 N st a w → wpAny P .any (ops.map (·.o)).toArray Q fuel listed a w := by
  have left_ready : ∀ (listed : Array Bool), listed.size = ops.length → Region.ready .any (ops.map (·.o)).toArray listed = [] → leftOf ops.length listed = [] := by
    intro listed hsz hr
    cases hl : leftOf ops.length listed with
    | nil => rfl
    | cons i l =>
      exfalso
      have hm : i ∈ leftOf ops.length listed := by rw [hl]; simp
      unfold leftOf at hm
      rw [List.mem_filter, List.mem_range] at hm
      obtain ⟨y, hy⟩ : ∃ y, ops[i]? = some y := ⟨ops[i]'hm.1, List.getElem?_eq_getElem _⟩
      have : i ∈ Region.ready .any (ops.map (·.o)).toArray listed := by
        rw [mem_ready]
        refine ⟨by simpa using hm.2, y.o, by simp [hy], fun e he hb => ?_⟩
        have hlt := (G.at_ i y hy).1 e (by simpa using he) hb
        cases hx : listed.getD e.on false with
        | true => rfl
        | false =>
          exfalso
          have hon : e.on ∈ leftOf ops.length listed := by
            unfold leftOf
            rw [List.mem_filter, List.mem_range]
            have h1 : e.on < listed.size := by omega
            refine ⟨by omega, ?_⟩
            simp only [Array.getD, h1, dite_true] at hx ⊢
            rw [hx]; rfl
          have hp : (leftOf ops.length listed).Pairwise (· < ·) := List.Pairwise.filter _ List.pairwise_lt_range
          rw [hl] at hp hon
          rw [List.pairwise_cons] at hp
          rcases List.mem_cons.1 hon with h | h
          · omega
          · have := hp.1 _ h; omega
      rw [hr] at this; cases this
  intro fuel
  induction fuel with
  | zero =>
    intro listed st a w hsz hf hcl hk C
    have hn : leftOf ops.length listed = [] := List.length_eq_zero_iff.1 (by omega)
    rw [hn] at hk
    refine ⟨?_, hQ st a w hk C⟩
    cases hr : Region.ready .any (ops.map (·.o)).toArray listed with
    | nil => rfl
    | cons i l =>
      exfalso
      have hm : i ∈ Region.ready .any (ops.map (·.o)).toArray listed := by rw [hr]; simp
      rw [mem_ready] at hm
      obtain ⟨h1, o, h2, _⟩ := hm
      have : i ∈ leftOf ops.length listed := by
        unfold leftOf
        rw [List.mem_filter, List.mem_range]
        have := (Array.getElem?_eq_some_iff.1 h2).1
        exact ⟨by simpa using this, by simp [h1]⟩
      rw [hn] at this; cases this
  | succ fuel ih =>
    intro listed st a w hsz hf hcl hk C
    refine ⟨fun hr => ?_, fun i hi => ?_⟩
    · rw [left_ready listed hsz hr] at hk
      exact hQ st a w hk C
    · rw [mem_ready] at hi
      obtain ⟨h1, o, h2, h3⟩ := hi
      obtain ⟨y, hy, rfl⟩ : ∃ y, ops[i]? = some y ∧ y.o = o := by
        have : (ops.map (·.o))[i]? = some o := by simpa using h2
        rw [List.getElem?_map] at this
        cases hy : ops[i]? with
        | none => rw [hy] at this; cases this
        | some y => rw [hy] at this; exact ⟨y, rfl, by simpa using this⟩
      have hlt := (List.getElem?_eq_some_iff.1 hy).1
      have hm : i ∈ leftOf ops.length listed := by
        unfold leftOf
        rw [List.mem_filter, List.mem_range]
        exact ⟨hlt, by simp [h1]⟩
      obtain ⟨p, q, hpq⟩ := List.append_of_mem hm
      have hp : (leftOf ops.length listed).Pairwise (· < ·) := List.Pairwise.filter _ List.pairwise_lt_range
      rw [hpq, List.pairwise_append] at hp
      obtain ⟨_, hp2, hp3⟩ := hp
      rw [List.pairwise_cons] at hp2
      have hleft : leftOf ops.length (listed.setIfInBounds i true) = p ++ q := by
        have e1 : leftOf ops.length (listed.setIfInBounds i true) = (leftOf ops.length listed).filter fun j => decide (j ≠ i) := by
          unfold leftOf
          rw [List.filter_filter]
          refine List.filter_congr fun j hj => ?_
          by_cases hji : j = i
          · subst hji
            simp [Array.getD, hsz, hlt]
          · simp only [ne_eq, hji, not_false_eq_true, decide_true, Bool.true_and]
            rw [getD_set_ne true (fun e => hji e.symm)]
        rw [e1, hpq, List.filter_append, List.filter_cons]
        simp only [ne_eq, not_true_eq_false, decide_false, Bool.false_eq_true, if_false]
        rw [List.filter_eq_self.2 fun j hj => ?_, List.filter_eq_self.2 fun j hj => ?_]
        · exact decide_eq_true (by have := hp2.1 j hj; omega)
        · exact decide_eq_true (by have := hp3 j hj i (by simp); omega)
      have hstep : stepsK R T fns (p.filterMap (ops[·]?) ++ y :: q.filterMap (ops[·]?)) st k = some z := by
        rw [hpq, List.filterMap_append, List.filterMap_cons] at hk
        simpa [hy] using hk
      have hlisted : ∀ e ∈ y.o.after.toList, Region.binds .any e = true → listed.getD e.on false = true := fun e he hb => h3 e (by simpa using he) hb
      obtain ⟨st', h4, h5⟩ := steps_pull hfns (p.filterMap (ops[·]?)) (q.filterMap (ops[·]?)) st k z (fun x' hx' => by
        rw [List.mem_filterMap] at hx'
        obtain ⟨j, hj, hxj⟩ := hx'
        have hji : j < i := hp3 j hj i (by simp)
        rcases (G.at_ i y hy).2.1 j x' hji hxj with h | h
        · exfalso
          have hl := G.before hcl hsz i y hy hlisted j h
          have hjm : j ∈ leftOf ops.length listed := by rw [hpq]; simp [hj]
          unfold leftOf at hjm
          rw [List.mem_filter, List.mem_range] at hjm
          have h1 : j < listed.size := by omega
          have := hjm.2
          simp only [Array.getD, h1, dite_true] at this hl
          rw [hl] at this; cases this
        · exact h) hstep
      have hmem := List.mem_of_getElem? hy
      refine lead_sound hT hfns hy (hN y hmem) (hgd y hmem) h4 C fun a' w' C' => ?_
      refine ih _ st' a' w' (by simpa using hsz) ?_ ?_ ?_ C'
      · rw [hleft]; rw [hpq] at hf; simp at hf ⊢; omega
      · intro j x hj hl e he hb
        by_cases hji : j = i
        · subst hji
          rw [hj] at hy; cases hy
          exact getD_set_true (hlisted e he hb)
        · rw [getD_set_ne true (fun e => hji e.symm)] at hl
          exact getD_set_true (hcl j x hj hl e he hb)
      · rw [hleft, List.filterMap_append]; exact h5

/-- A region, its order drawn or not. -/
def regionOk (N : Nat) (draw : Bool) (ops : List AOp) : Bool := ops.all (dstOk N) && ops.all (guardOk ops) && (!draw || ordGo [] [] ops)

theorem region_sound (hT : TblOk P T) (hfns : FnsOk P fns) (hm : P.follows .mixedOrders = true) {ops : List AOp} {draw : Bool} (hok : regionOk N draw ops = true) {id : Nat} {Q : Exit → Act → World → Prop} {k : St → Option R} {z : R} {st : St} {a : Act} {w : World}
    (hk : stepsK R T fns ops st k = some z) (C : Conc x0 w0 N st a w) (hQ : ∀ st' a' w', k st' = some z → Conc x0 w0 N st' a' w' → Q .normal a' w') : (Code.region id (ops.map (·.o)).toArray draw).wp P Q a w := by
  unfold regionOk at hok
  simp only [Bool.and_eq_true] at hok
  obtain ⟨⟨h1, h2⟩, h3⟩ := hok
  have hN : ∀ ao ∈ ops, dstOk N ao = true := List.all_eq_true.1 h1
  have hgd : ∀ ao ∈ ops, guardOk ops ao = true := List.all_eq_true.1 h2
  cases draw with
  | false =>
    refine wp_region ?_
    have := steps_sound (x0 := x0) (w0 := w0) hT hfns ops hN hgd ops 0 (by simp) st a w hk C hQ
    rw [List.range_eq_range']
    simpa using this
  | true =>
    simp only [Bool.not_true, Bool.false_or] at h3
    obtain ⟨acc, G⟩ := good_of ops h3
    refine wp_region_any hm ?_
    obtain ⟨⟨x, hσ, Gx, hdf, hs⟩, hsz⟩ := C
    have hleft : leftOf ops.length (Array.replicate ops.length false) = List.range ops.length := by
      unfold leftOf
      refine List.filter_eq_self.2 fun j hj => ?_
      rw [List.mem_range] at hj
      simp [Array.getD, hj]
    have hall : (List.range ops.length).filterMap (ops[·]?) = ops := by
      have : ∀ (l : List AOp) (n : Nat), ops.drop n = l → (List.range' n l.length).filterMap (ops[·]?) = l := by
        intro l
        induction l with
        | nil => intro n _; rfl
        | cons x l ih =>
          intro n hn
          have hx : ops[n]? = some x := by
            have := congrArg (·[0]?) hn
            simpa using this
          rw [List.length_cons, List.range'_succ, List.filterMap_cons, hx]
          simp only
          rw [ih (n + 1) (by rw [← List.drop_drop, hn]; rfl)]
      have h0 := this ops 0 (by simp)
      rw [List.range_eq_range']
      exact h0
    have hszA : (ops.map (·.o)).toArray.size = ops.length := by simp
    rw [hszA]
    refine any_sound (x0 := x0) (w0 := w0) (N := N) (k := k) (z := z) hT hfns ops G hN hgd hQ ops.length _ st a _ (by simp) (by rw [hleft]; simp) ?_ (by rw [hleft, hall]; exact hk) ?_
    · intro i x hx hl
      have := (List.getElem?_eq_some_iff.1 hx).1
      simp [Array.getD, this] at hl
    · exact ⟨⟨x, hσ, Gx.trans (Goes.drew Gx.mem Gx.h _), hdf.goes (Goes.drew Gx.mem Gx.h _), hs⟩, hsz⟩
end
end Go.Am
