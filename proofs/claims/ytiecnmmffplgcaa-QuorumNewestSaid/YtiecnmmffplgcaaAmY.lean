/- The abstract machine, twenty-fifth part: code. -/
import Derived.Test.YtiecnmmffplgcaaAmXB
import Derived.LoopN
import Derived.Scope
namespace Go.Am

inductive ACode where
  | skip
  | region (id : Nat) (ops : List AOp) (draw : Bool)
  /-- a region of which one step has more than one outcome -/
  | wild (id : Nat) (pre : List AOp) (o : AOp) (post : List AOp)
  | seq (a b : ACode)
  | cond (c : Operand) (a b : ACode)
  | block (id : Nat) (a : ACode)
  | loop (nm : Norm) (a : ACode)
  | exit (id : Nat)
  | scope (a : ACode)
  | ret (ks : List (Option (Nat × Nat)))
  | norm (nm : Norm) (a : ACode)
  /-- at its normal end told anew -/
  | fin (nm : Norm) (a : ACode)
  | co (c : Coe) (a : ACode)
  | finco (c : Coe) (a : ACode)
  /-- told in one way or another, as the state is -/
  | either (t : St → Bool) (a b : ACode)
  /-- a part that is told elsewhere -/
  | hole (nm : Norm) (i : Nat) (c : Code)

def ACode.erase : ACode → Code
  | .skip => .skip
  | .region id ops draw => .region id (ops.map (·.o)).toArray draw
  | .wild id pre o post => .region id ((pre ++ o :: post).map (·.o)).toArray false
  | .seq a b => .seq a.erase b.erase
  | .cond c a b => .cond c a.erase b.erase
  | .block id a => .block id a.erase
  | .loop _ a => .loop a.erase
  | .exit id => .exit id
  | .scope a => .scope a.erase
  | .ret _ => .ret
  | .norm _ a => a.erase
  | .fin _ a => a.erase
  | .co _ a => a.erase
  | .finco _ a => a.erase
  | .either _ a _ => a.erase
  | .hole _ _ c => c

def ACode.ok (N : Nat) : ACode → Bool
  | .region _ ops draw => regionOk N draw ops
  | .wild _ pre o post => wildOk N pre o post
  | .seq a b | .cond _ a b | .either _ a b => a.ok N && b.ok N
  | .block _ a | .loop _ a | .scope a | .norm _ a | .fin _ a | .co _ a | .finco _ a => a.ok N
  | _ => true

/-- Told in two ways, it is one code. -/
def ACode.same : ACode → Prop
  | .seq a b | .cond _ a b => a.same ∧ b.same
  | .block _ a | .loop _ a | .scope a | .norm _ a | .fin _ a | .co _ a | .finco _ a => a.same
  | .either _ a b => a.same ∧ b.same ∧ b.erase = a.erase
  | _ => True

inductive AExit where
  | normal
  | exit (id : Nat)
  | ret (ks : List (Option (Nat × Nat)))

def AExit.up : AExit → Exit
  | .normal => .normal
  | .exit id => .exit id
  | .ret _ => .ret

/-- A part that is told elsewhere: where its values lie, its code, what it does. -/
structure Sub (R : Type) where
  live : List Nat
  code : Code
  run : List AVal → List AObj → (AExit → St → Option R) → Option R

abbrev Subs (R : Type) := Nat → Option (Sub R)

def ACode.holes : ACode → List (List Nat × Code)
  | .seq a b | .cond _ a b | .either _ a b => a.holes ++ b.holes
  | .block _ a | .loop _ a | .scope a | .norm _ a | .fin _ a | .co _ a | .finco _ a => a.holes
  | .hole nm _ c => [(nm.live, c)]
  | _ => []

def ACode.fills {R : Type} (subs : Subs R) : ACode → List (List Nat × Code)
  | .seq a b | .cond _ a b | .either _ a b => a.fills subs ++ b.fills subs
  | .block _ a | .loop _ a | .scope a | .norm _ a | .fin _ a | .co _ a | .finco _ a => a.fills subs
  | .hole _ i _ => match subs i with | some s => [(s.live, s.code)] | none => [([], .skip)]
  | _ => []

theorem fills_length {R : Type} (subs : Subs R) (a : ACode) : (a.fills subs).length = a.holes.length := by
  induction a with
  | seq a b iha ihb => simp only [ACode.fills, ACode.holes, List.length_append, iha, ihb]
  | cond c a b iha ihb => simp only [ACode.fills, ACode.holes, List.length_append, iha, ihb]
  | block id a ih => exact ih
  | loop nm a ih => exact ih
  | scope a ih => exact ih
  | norm nm a ih => exact ih
  | fin nm a ih => exact ih
  | co c a ih => exact ih
  | finco c a ih => exact ih
  | either t a b iha ihb => simp only [ACode.fills, ACode.holes, List.length_append, iha, ihb]
  | hole nm i c => simp only [ACode.fills, ACode.holes]; split <;> rfl
  | _ => rfl

section
variable (R : Type) (T : Tbl) (fns : Fns) (fuel : Nat) (g0 : List Bool)

/-- Rounds of a loop, each from a state told anew. -/
def backTo (nm : Norm) (F : St → Option R) (k : AExit → St → Option R) : AExit → St → Option R
  | .normal, st => normK g0 nm st F
  | .exit id, st => k (.exit id) st
  | .ret ks, st => k (.ret ks) st

def roundsK (nm : Norm) (B : St → (AExit → St → Option R) → Option R) (k : AExit → St → Option R) : Nat → St → Option R
  | 0, _ => none
  | n + 1, st => B st (backTo R g0 nm (roundsK nm B k n) k)

def condK (c : Operand) (st : St) (A B : St → Option R) : Option R :=
  match c with
  | .tmp t => match st.slots t with
    | some (.dat p .bool b) => bif b then A (st.know t p true) else B (st.know t p false)
    | _ => none
  | .const (.bool b) => bif b then A st else B st
  | _ => none

noncomputable def runK (subs : Subs R) : ACode → St → (AExit → St → Option R) → Option R
  | .skip, st, k => k .normal st
  | .region _ ops _, st, k => stepsK R T fns ops st (k .normal)
  | .wild _ pre o post, st, k => wildsK R T fns pre o post st (k .normal)
  | .seq a b, st, k => runK subs a st fun e st' => match e with
    | .normal => runK subs b st' k
    | .exit id => k (.exit id) st'
    | .ret ks => k (.ret ks) st'
  | .cond c a b, st, k => condK R c st (fun st => runK subs a st k) (fun st => runK subs b st k)
  | .block id a, st, k => runK subs a st fun e st' => match e with
    | .normal => k .normal st'
    | .exit id' => bif Nat.beq id' id then k .normal st' else k (.exit id') st'
    | .ret ks => k (.ret ks) st'
  | .loop nm a, st, k => normK g0 nm st fun st' => roundsK R g0 nm (fun st k => runK subs a st k) k fuel st'
  | .exit id, st, k => k (.exit id) st
  | .scope a, st, k => runK subs a st k
  | .ret ks, st, k => k (.ret ks) st
  | .norm nm a, st, k => normK g0 nm st fun st' => runK subs a st' k
  | .fin nm a, st, k => runK subs a st fun e st' => match e with
    | .normal => normK g0 nm st' fun st2 => k .normal st2
    | .exit id => k (.exit id) st'
    | .ret ks => k (.ret ks) st'
  | .co c a, st, k => coeK c st fun st' => runK subs a st' k
  | .finco c a, st, k => runK subs a st fun e st' => match e with
    | .normal => coeK c st' fun st2 => k .normal st2
    | .exit id => k (.exit id) st'
    | .ret ks => k (.ret ks) st'
  | .either t a b, st, k => bif t st then runK subs a st k else runK subs b st k
  | .hole nm i _, st, k => match subs i with
    | some s => tellK g0 nm st fun vs os => s.run vs os k
    | none => none

def resK (st : St) : List ResultVar → (AVal → Option R) → Option R
  | [], k => k .nil
  | .tmp t :: l, k => match st.slots t with
    | some v => resK st l fun vs => k (.cons v vs)
    | none => none
  | .cell t ty :: l, k => match st.slots t with
    | some v => actLoad T (fun r => st.σ[r]?) ty v fun v ups => bif ups.isEmpty then resK st l fun vs => k (.cons v vs) else none
    | none => none

def retK (rs : List ResultVar) (ks : List (Option (Nat × Nat))) (st : St) (k : AVal → List AObj → Option R) : Option R :=
  bif renFits g0 st.σ ks then resK R T st rs fun vs => match vs with
    | .cons v .nil => k (v.told (renName ks st.σ)) (renObjs ks st.σ)
    | vs => k ((AVal.tup vs).told (renName ks st.σ)) (renObjs ks st.σ)
  else none
end

/-- A function as the machine runs it. -/
structure FunDef where
  code : ACode
  results : List ResultVar
  ntmps : Nat
  room : Nat
  ks : List (Option (Nat × Nat))
  g0 : List Bool

def countTo : Nat → Nat → List Nat
  | _, 0 => []
  | i, n + 1 => i :: countTo (i + 1) n

noncomputable def runF (R : Type) (T : Tbl) (fns : Fns) (fuel : Nat) (subs : Subs R) (fd : FunDef) (args : List AVal) (objs : List AObj) (k : AVal → List AObj → Option R) : Option R :=
  runK R T fns fuel fd.g0 subs fd.code ⟨slotsAt (countTo 0 args.length) args, objs ++ List.replicate fd.room .free⟩ fun e st => match e with
    | .normal => retK R T fd.g0 fd.results fd.ks st k
    | .ret ks => retK R T fd.g0 fd.results ks st k
    | .exit _ => none

/-- What is told of a part holds. -/
def SubOk (P : Program) {R : Type} (g0 : List Bool) (N : Nat) (s : Sub R) : Prop :=
  ∀ (args : List AVal) (objs : List AObj) (k : AExit → St → Option R) (z : R), s.run args objs k = some z → ∀ (x0 : Ctx) (w0 : World) (a : Act) (w : World) (Q : Exit → Act → World → Prop), x0.σ.map AObj.arr0 = g0 →
    Conc x0 w0 N ⟨slotsAt s.live args, objs⟩ a w → (∀ e st' a' w', k e st' = some z → Conc x0 w0 N st' a' w' → Q e.up a' w') → s.code.wp P Q a w

def SubsOk (P : Program) {R : Type} (g0 : List Bool) (N : Nat) (subs : Subs R) : Prop := ∀ i s, subs i = some s → SubOk P g0 N s

section
variable {P : Program} {T : Tbl} {fns : Fns} {R : Type} {x0 : Ctx} {w0 : World} {N fuel : Nat}

theorem know_conc {st : St} {t : Nat} {p b : Bool} {a : Act} {w : World} (h : st.slots t = some (.dat p .bool b)) (C : Conc x0 w0 N st a w) : Conc x0 w0 N (st.know t p b) a w := by
  rw [know_same h]; exact C

theorem run_sound (hT : TblOk P T) (hfns : FnsOk P fns) (hm : P.follows .mixedOrders = true) {subs : Subs R} (hsubs : SubsOk P (x0.σ.map AObj.arr0) N subs) {z : R} : ∀ (c : ACode), c.ok N = true → c.same → c.holes = c.fills subs → ∀ (st : St) (k : AExit → St → Option R) (a : Act) (w : World) (Q : Exit → Act → World → Prop),
    runK R T fns fuel (x0.σ.map AObj.arr0) subs c st k = some z → Conc x0 w0 N st a w → (∀ e st' a' w', k e st' = some z → Conc x0 w0 N st' a' w' → Q e.up a' w') → c.erase.wp P Q a w := by
  intro c
  induction c with
  | skip => intro _ _ _ st k a w Q h C hQ; exact wp_skip (hQ .normal _ _ _ h C)
  | region id ops draw =>
    intro hok hsm hh st k a w Q h C hQ
    exact region_sound hT hfns hm hok h C fun st' a' w' h' C' => hQ .normal _ _ _ h' C'
  | wild id pre o post =>
    intro hok hsm hh st k a w Q h C hQ
    exact wild_sound hT hfns hok h C fun st' a' w' h' C' => hQ .normal _ _ _ h' C'
  | seq c d ihc ihd =>
    intro hok hsm hh st k a w Q h C hQ
    simp only [ACode.ok, Bool.and_eq_true] at hok
    obtain ⟨hh1, hh2⟩ := List.append_inj hh (fills_length subs c).symm
    refine wp_seq (ihc hok.1 hsm.1 hh1 st _ a w _ h C fun e st' a' w' h' C' => ?_)
    cases e with
    | normal => exact ihd hok.2 hsm.2 hh2 st' k a' w' Q h' C' hQ
    | exit id => exact hQ (.exit id) _ _ _ h' C'
    | ret ks => exact hQ (.ret ks) _ _ _ h' C'
  | cond o c d ihc ihd =>
    intro hok hsm hh st k a w Q h C hQ
    simp only [ACode.ok, Bool.and_eq_true] at hok
    obtain ⟨hh1, hh2⟩ := List.append_inj hh (fills_length subs c).symm
    simp only [runK, condK] at h
    split at h
    · rename_i t
      split at h
      · rename_i p b hs
        obtain ⟨x, _, _, hsl⟩ := C.state
        obtain ⟨u, h3, h4⟩ := hsl t _ hs
        have hu := V_bool.1 h4
        subst hu
        have he : a.eval (.tmp t) = .bool b := by simp [Act.eval, Array.getD_eq_getD_getElem?, h3]
        cases b with
        | true => exact wp_cond_true he (ihc hok.1 hsm.1 hh1 _ k a w Q h (know_conc hs C) hQ)
        | false => exact wp_cond_false he (ihd hok.2 hsm.2 hh2 _ k a w Q h (know_conc hs C) hQ)
      · cases h
    · rename_i b
      cases b with
      | true => exact wp_cond_true (by simp [Act.eval]) (ihc hok.1 hsm.1 hh1 _ k a w Q h C hQ)
      | false => exact wp_cond_false (by simp [Act.eval]) (ihd hok.2 hsm.2 hh2 _ k a w Q h C hQ)
    · cases h
  | block id c ih =>
    intro hok hsm hh st k a w Q h C hQ
    refine wp_block (ih hok hsm hh st _ a w _ h C fun e st' a' w' h' C' => ?_)
    cases e with
    | normal => exact hQ .normal _ _ _ h' C'
    | exit id' =>
      show (if id' = id then Q .normal a' w' else Q (.exit id') a' w')
      simp only at h'
      cases hb : Nat.beq id' id with
      | true => rw [hb] at h'; rw [if_pos (Nat.eq_of_beq_eq_true hb)]; exact hQ .normal _ _ _ h' C'
      | false => rw [hb] at h'; rw [if_neg (fun e => by rw [e, Nat.beq_refl] at hb; cases hb)]; exact hQ (.exit id') _ _ _ h' C'
    | ret ks => exact hQ (.ret ks) _ _ _ h' C'
  | loop nm c ih =>
    intro hok hsm hh st k a w Q h C hQ
    obtain ⟨st', h1, C1⟩ := norm_sound h C
    refine wp_loop_rounds fuel ?_
    have key : ∀ n st a w, roundsK R (x0.σ.map AObj.arr0) nm (fun st k => runK R T fns fuel (x0.σ.map AObj.arr0) subs c st k) k n st = some z → Conc x0 w0 N st a w → Code.rounds P c.erase Q n a w := by
      intro n
      induction n with
      | zero => intro st a w h; cases h
      | succ n ihn =>
        intro st a w h C
        refine ih hok hsm hh st _ a w _ h C fun e st' a' w' h' C' => ?_
        cases e with
        | normal =>
          obtain ⟨st2, h2, C2⟩ := norm_sound h' C'
          exact ihn st2 a' w' h2 C2
        | exit id => exact hQ (.exit id) _ _ _ h' C'
        | ret ks => exact hQ (.ret ks) _ _ _ h' C'
    exact key fuel st' a w h1 C1
  | exit id => intro _ _ _ st k a w Q h C hQ; exact wp_exit (hQ (.exit id) _ _ _ h C)
  | scope c ih =>
    intro hok hsm hh st k a w Q h C hQ
    refine wp_scope_straight (ih hok hsm hh st k a w _ h C fun e st' a' w' h' C' => ?_)
    cases e with
    | normal => exact hQ .normal _ _ _ h' C'
    | exit id => exact hQ (.exit id) _ _ _ h' C'
    | ret ks => exact hQ (.ret ks) _ _ _ h' C'
  | ret ks => intro _ _ _ st k a w Q h C hQ; exact wp_ret (hQ (.ret ks) _ _ _ h C)
  | norm nm c ih =>
    intro hok hsm hh st k a w Q h C hQ
    obtain ⟨st', h1, C1⟩ := norm_sound h C
    exact ih hok hsm hh st' k a w Q h1 C1 hQ
  | fin nm c ih =>
    intro hok hsm hh st k a w Q h C hQ
    refine ih hok hsm hh st _ a w Q h C fun e st' a' w' h' C' => ?_
    cases e with
    | normal =>
      obtain ⟨st2, h2, C2⟩ := norm_sound h' C'
      exact hQ .normal _ _ _ h2 C2
    | exit id => exact hQ (.exit id) _ _ _ h' C'
    | ret ks => exact hQ (.ret ks) _ _ _ h' C'
  | co c d ih =>
    intro hok hsm hh st k a w Q h C hQ
    obtain ⟨st', h1, C1⟩ := coe_sound h C
    exact ih hok hsm hh st' k a w Q h1 C1 hQ
  | finco c d ih =>
    intro hok hsm hh st k a w Q h C hQ
    refine ih hok hsm hh st _ a w Q h C fun e st' a' w' h' C' => ?_
    cases e with
    | normal =>
      obtain ⟨st2, h2, C2⟩ := coe_sound h' C'
      exact hQ .normal _ _ _ h2 C2
    | exit id => exact hQ (.exit id) _ _ _ h' C'
    | ret ks => exact hQ (.ret ks) _ _ _ h' C'
  | either t c d ihc ihd =>
    intro hok hsm hh st k a w Q h C hQ
    simp only [ACode.ok, Bool.and_eq_true] at hok
    obtain ⟨hh1, hh2⟩ := List.append_inj hh (fills_length subs c).symm
    simp only [runK] at h
    cases ht : t st with
    | true => rw [ht] at h; exact ihc hok.1 hsm.1 hh1 st k a w Q h C hQ
    | false =>
      rw [ht] at h
      have := ihd hok.2 hsm.2.1 hh2 st k a w Q h C hQ
      rw [hsm.2.2] at this
      exact this
  | hole nm i c =>
    intro _ _ hh st k a w Q h C hQ
    simp only [runK] at h
    simp only [ACode.holes, ACode.fills] at hh
    cases hs : subs i with
    | none => rw [hs] at h; cases h
    | some s =>
      rw [hs] at h hh
      simp only [List.cons.injEq, Prod.mk.injEq, and_true] at hh
      obtain ⟨h1, h2⟩ := hh
      obtain ⟨vs, os, h3, C3⟩ := tell_sound h C
      rw [h1] at C3
      show c.wp P Q a w
      rw [h2]
      exact hsubs i s hs vs os k z h3 x0 w0 a w Q rfl C3 hQ

/-- A part, from its code's run. -/
theorem subOk_of (hT : TblOk P T) (hfns : FnsOk P fns) (hm : P.follows .mixedOrders = true) {g0 : List Bool} {subs : Subs R} (hsubs : SubsOk P g0 N subs) {c : ACode} (hok : c.ok N = true) (hsm : c.same) (hh : c.holes = c.fills subs) {s : Sub R} (hc : c.erase = s.code)
    (hrun : ∀ args objs k z, s.run args objs k = some z → runK R T fns fuel g0 subs c ⟨slotsAt s.live args, objs⟩ k = some z) : SubOk P g0 N s := by
  intro args objs k z h x0 w0 a w Q hg C hQ
  subst hg
  rw [← hc]
  exact run_sound hT hfns hm hsubs c hok hsm hh _ k a w Q (hrun args objs k z h) C hQ
end
end Go.Am
