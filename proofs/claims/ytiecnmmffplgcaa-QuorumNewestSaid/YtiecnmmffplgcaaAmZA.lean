/- The abstract machine, twenty-seventh part: a function's code with what the machine is told beside it. -/
import Derived.Test.YtiecnmmffplgcaaAmZ
namespace Go.Am

/-- A value's kind. -/
def AVal.tag : AVal → Nat
  | .dat _ _ _ => 0 | .pair _ _ => 1 | .one _ => 2 | .ptr _ _ _ => 3 | .nilp => 4 | .ref _ _ _ => 5 | .slc _ _ => 6 | .sub _ _ _ _ _ => 7 | .nils => 8
  | .map _ => 9 | .nilm => 10 | .fn _ _ => 11 | .nilf => 12 | .iface _ _ => 13 | .nili => 14 | .tup _ => 15 | .nil => 16 | .cons _ _ => 17 | .junk => 18

def slotTag (st : St) (i k : Nat) : Bool := match st.slots i with
  | some v => Nat.beq v.tag k
  | none => false

/-- What is told beside a function's code, node by node. -/
inductive AN where
  | leaf
  | region (l : List (Nat × Ann))
  /-- the step at that place has more than one outcome -/
  | wild (i : Nat) (l : List (Nat × Ann))
  | seq (a b : AN)
  | cond (a b : AN)
  | block (a : AN)
  | loop (nm : Norm) (a : AN)
  | scope (a : AN)
  | ret (ks : List (Option (Nat × Nat)))
  | norm (nm : Norm) (a : AN)
  | fin (nm : Norm) (a : AN)
  | co (c : Coe) (a : AN)
  | finco (c : Coe) (a : AN)
  | either (t : St → Bool) (a b : AN)
  | hole (nm : Norm) (i : Nat)

def annAt : List (Nat × Ann) → Nat → Ann
  | [], _ => {}
  | (i, an) :: l, j => bif Nat.beq j i then an else annAt l j

def guardOf (ops : List Oper) : Option (Nat × Bool) → Option (Nat × Bool)
  | none => none
  | some (j, w) => match ops[j]? with
    | some o => match o.dst with
      | some d => some (d, w)
      | none => none
    | none => none

def toAOps (ops : List Oper) (l : List (Nat × Ann)) : Nat → List Oper → List AOp
  | _, [] => []
  | i, o :: os => ⟨o, annAt l i, guardOf ops o.guard⟩ :: toAOps ops l (i + 1) os

def cutAt {A : Type} : Nat → List A → Option (List A × A × List A)
  | _, [] => none
  | 0, x :: l => some ([], x, l)
  | i + 1, x :: l => match cutAt i l with
    | some (p, o, q) => some (x :: p, o, q)
    | none => none

theorem cutAt_eq {A : Type} : ∀ (i : Nat) (l : List A) {p q : List A} {o : A}, cutAt i l = some (p, o, q) → p ++ o :: q = l
  | 0, [], _, _, _, h => by cases h
  | _ + 1, [], _, _, _, h => by cases h
  | 0, x :: l, _, _, _, h => by cases h; rfl
  | i + 1, x :: l, p, q, o, h => by
    simp only [cutAt] at h
    split at h
    · rename_i p' o' q' h1
      cases h
      have := cutAt_eq i l h1
      rw [← this]; rfl
    · cases h

def toA : Code → AN → Option ACode
  | c, .norm nm a => match toA c a with | some a => some (.norm nm a) | none => none
  | c, .fin nm a => match toA c a with | some a => some (.fin nm a) | none => none
  | c, .co e a => match toA c a with | some a => some (.co e a) | none => none
  | c, .finco e a => match toA c a with | some a => some (.finco e a) | none => none
  | c, .either t a b => match toA c a, toA c b with | some a, some b => some (.either t a b) | _, _ => none
  | c, .hole nm i => some (.hole nm i c)
  | .region id ops draw, .region l => some (.region id (toAOps ops.toList l 0 ops.toList) draw)
  | .region id ops draw, .wild i l => match cutAt i (toAOps ops.toList l 0 ops.toList) with
    | some (pre, o, post) => bif draw then none else some (.wild id pre o post)
    | none => none
  | .region id ops draw, .leaf => some (.region id (toAOps ops.toList [] 0 ops.toList) draw)
  | .seq c d, .seq a b => match toA c a, toA d b with | some a, some b => some (.seq a b) | _, _ => none
  | .cond o c d, .cond a b => match toA c a, toA d b with | some a, some b => some (.cond o a b) | _, _ => none
  | .block id c, .block a => match toA c a with | some a => some (.block id a) | none => none
  | .loop c, .loop nm a => match toA c a with | some a => some (.loop nm a) | none => none
  | .scope c, .scope a => match toA c a with | some a => some (.scope a) | none => none
  | .skip, .leaf => some .skip
  | .exit id, .leaf => some (.exit id)
  | .ret, .ret ks => some (.ret ks)
  | .ret, .leaf => some (.ret [])
  | _, _ => none
termination_by structural _ an => an

theorem toAOps_o (ops : List Oper) (l : List (Nat × Ann)) : ∀ (os : List Oper) (i : Nat), (toAOps ops l i os).map (·.o) = os := by
  intro os
  induction os with
  | nil => intro i; rfl
  | cons o os ih => intro i; simp only [toAOps, List.map_cons, ih]

theorem toA_erase : ∀ (an : AN) (c : Code) (a : ACode), toA c an = some a → a.erase = c := by
  intro an
  induction an with
  | leaf =>
    intro c a h
    cases c <;> simp only [toA] at h <;> first
      | (cases h; done)
      | (cases h; rfl)
      | (cases h; simp [ACode.erase, toAOps_o])
  | region l =>
    intro c a h
    cases c <;> simp only [toA] at h <;> first
      | (cases h; done)
      | (cases h; simp [ACode.erase, toAOps_o])
  | wild i l =>
    intro c a h
    cases c <;> simp only [toA] at h <;> try (cases h; done)
    split at h
    · rename_i ops draw _ pre o post h1
      cases draw with
      | true => cases h
      | false =>
        cases h
        simp only [ACode.erase]
        rw [cutAt_eq _ _ h1, toAOps_o]
    · cases h
  | seq x y ihx ihy =>
    intro c a h
    cases c <;> simp only [toA] at h <;> try (cases h; done)
    split at h
    · rename_i h1 h2; cases h; simp only [ACode.erase, ihx _ _ h1, ihy _ _ h2]
    · cases h
  | cond x y ihx ihy =>
    intro c a h
    cases c <;> simp only [toA] at h <;> try (cases h; done)
    split at h
    · rename_i h1 h2; cases h; simp only [ACode.erase, ihx _ _ h1, ihy _ _ h2]
    · cases h
  | block x ih =>
    intro c a h
    cases c <;> simp only [toA] at h <;> try (cases h; done)
    split at h
    · rename_i h1; cases h; simp only [ACode.erase, ih _ _ h1]
    · cases h
  | loop nm x ih =>
    intro c a h
    cases c <;> simp only [toA] at h <;> try (cases h; done)
    split at h
    · rename_i h1; cases h; simp only [ACode.erase, ih _ _ h1]
    · cases h
  | scope x ih =>
    intro c a h
    cases c <;> simp only [toA] at h <;> try (cases h; done)
    split at h
    · rename_i h1; cases h; simp only [ACode.erase, ih _ _ h1]
    · cases h
  | ret ks =>
    intro c a h
    cases c <;> simp only [toA] at h <;> try (cases h; done)
    cases h; rfl
  | norm nm x ih =>
    intro c a h
    simp only [toA] at h
    split at h
    · rename_i h1; cases h; have := ih _ _ h1; exact this
    · cases h
  | fin nm x ih =>
    intro c a h
    simp only [toA] at h
    split at h
    · rename_i h1; cases h; have := ih _ _ h1; exact this
    · cases h
  | co e x ih =>
    intro c a h
    simp only [toA] at h
    split at h
    · rename_i h1; cases h; have := ih _ _ h1; exact this
    · cases h
  | finco e x ih =>
    intro c a h
    simp only [toA] at h
    split at h
    · rename_i h1; cases h; have := ih _ _ h1; exact this
    · cases h
  | either t x y ihx ihy =>
    intro c a h
    simp only [toA] at h
    split at h
    · rename_i h1 h2; cases h; have := ihx _ _ h1; exact this
    · cases h
  | hole nm i =>
    intro c a h
    simp only [toA] at h
    cases h; rfl

theorem toA_same : ∀ (an : AN) (c : Code) (a : ACode), toA c an = some a → a.same := by
  intro an
  induction an with
  | leaf =>
    intro c a h
    cases c <;> simp only [toA] at h <;> first
      | (cases h; done)
      | (cases h; trivial)
  | region l =>
    intro c a h
    cases c <;> simp only [toA] at h <;> first
      | (cases h; done)
      | (cases h; trivial)
  | wild i l =>
    intro c a h
    cases c <;> simp only [toA] at h <;> try (cases h; done)
    split at h
    · rename_i ops draw _ pre o post h1
      cases draw with
      | true => cases h
      | false => cases h; trivial
    · cases h
  | seq x y ihx ihy =>
    intro c a h
    cases c <;> simp only [toA] at h <;> try (cases h; done)
    split at h
    · rename_i h1 h2; cases h; exact ⟨ihx _ _ h1, ihy _ _ h2⟩
    · cases h
  | cond x y ihx ihy =>
    intro c a h
    cases c <;> simp only [toA] at h <;> try (cases h; done)
    split at h
    · rename_i h1 h2; cases h; exact ⟨ihx _ _ h1, ihy _ _ h2⟩
    · cases h
  | block x ih =>
    intro c a h
    cases c <;> simp only [toA] at h <;> try (cases h; done)
    split at h
    · rename_i h1; cases h; have h2 := ih _ _ h1; exact h2
    · cases h
  | loop nm x ih =>
    intro c a h
    cases c <;> simp only [toA] at h <;> try (cases h; done)
    split at h
    · rename_i h1; cases h; have h2 := ih _ _ h1; exact h2
    · cases h
  | scope x ih =>
    intro c a h
    cases c <;> simp only [toA] at h <;> try (cases h; done)
    split at h
    · rename_i h1; cases h; have h2 := ih _ _ h1; exact h2
    · cases h
  | ret ks =>
    intro c a h
    cases c <;> simp only [toA] at h <;> try (cases h; done)
    cases h; trivial
  | norm nm x ih | fin nm x ih | co nm x ih | finco nm x ih =>
    intro c a h
    simp only [toA] at h
    split at h
    · rename_i h1; cases h; have h2 := ih _ _ h1; exact h2
    · cases h
  | either t x y ihx ihy =>
    intro c a h
    simp only [toA] at h
    split at h
    · rename_i h1 h2; cases h; exact ⟨ihx _ _ h1, ihy _ _ h2, (toA_erase _ _ _ h2).trans (toA_erase _ _ _ h1).symm⟩
    · cases h
  | hole nm i =>
    intro c a h
    simp only [toA] at h
    cases h; trivial

def codeOf (fn : Func) (an : AN) : ACode := match fn.body with
  | some c => match toA c an with
    | some a => a
    | none => .skip
  | none => .skip

def codeThere (fn : Func) (an : AN) : Bool := match fn.body with
  | some c => match toA c an with
    | some _ => true
    | none => false
  | none => false

theorem codeOf_erase {fn : Func} {an : AN} (h : codeThere fn an = true) : fn.body = some (codeOf fn an).erase := by
  unfold codeThere at h
  unfold codeOf
  split at h
  · rename_i c hc
    split at h
    · rename_i a ha
      simp only [hc, toA_erase _ _ _ ha]
    · cases h
  · cases h

theorem codeOf_same {fn : Func} {an : AN} : (codeOf fn an).same := by
  unfold codeOf
  split
  · split
    · rename_i ha; exact toA_same _ _ _ ha
    · trivial
  · trivial

def defOf (fn : Func) (an : AN) (room : Nat) (ks : List (Option (Nat × Nat))) (g0 : List Bool) : FunDef := ⟨codeOf fn an, fn.results.toList, fn.ntmps, room, ks, g0⟩

section
variable {P : Program} {T : Tbl} {fns : Fns} {fuel : Nat}

def defThere (fn : Func) (an : AN) : Bool := codeThere fn an && (codeOf fn an).ok fn.ntmps && !(fn.name == "runtime.NumGoroutine")

theorem funOk_def {Y Z : Type} (hT : TblOk P T) (hfns : FnsOk P fns) (hm : P.follows .mixedOrders = true) {f : FuncId} {fn : Func} {an : AN} {room : Nat} {ks : List (Option (Nat × Nat))} {g0 : List Bool} (hf : P.funcs[f]? = some fn) (hd : defThere fn an = true)
    {subs : Subs Z} (hsubs : SubsOk P g0 fn.ntmps subs) (hh : (codeOf fn an).holes = (codeOf fn an).fills subs)
    (inp : List AVal → List AObj → Option Y) (plain : Y → Option Z) (dec : AVal → List AObj → Option Z) (encV : Z → AVal) (encO : Z → List AObj)
    (hdec : ∀ v os z, dec v os = some z → v = encV z ∧ os = encO z)
    (hrun : ∀ args objs y, inp args objs = some y → (Nat.ble args.length fn.ntmps = true ∧ objs.map AObj.arr0 = g0) ∧ runF Z T fns fuel subs (defOf fn an room ks g0) args objs dec = plain y) :
    FunOk P f (funAs inp plain encV encO) := by
  unfold defThere at hd
  rw [Bool.and_eq_true, Bool.and_eq_true] at hd
  obtain ⟨⟨h1, h2⟩, h3⟩ := hd
  exact funOk_of (fd := defOf fn an room ks g0) hT hfns hm hf (by simpa using h3) (codeOf_erase h1) rfl rfl h2 codeOf_same hsubs hh inp plain dec encV encO hdec hrun

/-- The part of a code at a place. -/
def codeAt : Code → List Nat → Code
  | .seq c _, 0 :: p => codeAt c p
  | .seq _ d, 1 :: p => codeAt d p
  | .cond _ c _, 0 :: p => codeAt c p
  | .cond _ _ d, 1 :: p => codeAt d p
  | .block _ c, 0 :: p => codeAt c p
  | .loop c, 0 :: p => codeAt c p
  | .scope c, 0 :: p => codeAt c p
  | c, _ => c

def bodyAt (fn : Func) (p : List Nat) : Code := match fn.body with
  | some c => codeAt c p
  | none => .skip

def partOf (c : Code) (an : AN) : ACode := match toA c an with
  | some a => a
  | none => .skip
def partThere (N : Nat) (c : Code) (an : AN) : Bool := match toA c an with
  | some a => a.ok N
  | none => false

theorem subOk_part {R : Type} (hT : TblOk P T) (hfns : FnsOk P fns) (hm : P.follows .mixedOrders = true) {N : Nat} {g0 : List Bool} {subs : Subs R} (hsubs : SubsOk P g0 N subs) {s : Sub R} {an : AN} (hd : partThere N s.code an = true)
    (hh : (partOf s.code an).holes = (partOf s.code an).fills subs)
    (hrun : ∀ args objs k z, s.run args objs k = some z → runK R T fns fuel g0 subs (partOf s.code an) ⟨slotsAt s.live args, objs⟩ k = some z) : SubOk P g0 N s := by
  unfold partThere at hd
  split at hd
  · rename_i a ha
    have e : partOf s.code an = a := by unfold partOf; rw [ha]
    rw [e] at hh
    refine subOk_of (fuel := fuel) hT hfns hm hsubs hd (toA_same _ _ _ ha) hh (toA_erase _ _ _ ha) fun args objs k z h => ?_
    rw [← e]
    exact hrun args objs k z h
  · cases hd

/-- Parts, listed. -/
def subsOf {R : Type} : List (Sub R) → Subs R
  | [], _ => none
  | s :: _, 0 => some s
  | _ :: l, i + 1 => subsOf l i

theorem subsOf_ok {R : Type} {g0 : List Bool} {N : Nat} : ∀ (l : List (Sub R)), (∀ s ∈ l, SubOk P g0 N s) → SubsOk P g0 N (subsOf l) := by
  intro l
  induction l with
  | nil => intro _ i s h; cases h
  | cons s l ih =>
    intro hl i s' h
    cases i with
    | zero => cases h; exact hl _ (by simp)
    | succ i => exact ih (fun s hs => hl s (by simp [hs])) i s' h

/-- A loop's rounds, where a round from a told state is told. -/
theorem rounds_eq {R : Type} {g0 : List Bool} {nm : Norm} {B : St → (AExit → St → Option R) → Option R} {k : AExit → St → Option R} {X : Type} {mk : X → St} {s : (X → Option R) → X → Option R} {l : Nat → X → Option R}
    (hs : ∀ (F : St → Option R) x, B (mk x) (backTo R g0 nm F k) = s (fun x => F (mk x)) x)
    (h0 : ∀ x, l 0 x = none) (h1 : ∀ n x, l (n + 1) x = s (l n) x) : ∀ n x, roundsK R g0 nm B k n (mk x) = l n x := by
  intro n
  induction n with
  | zero => intro x; exact (h0 x).symm
  | succ n ih =>
    intro x
    rw [h1]
    have e : l n = fun x => roundsK R g0 nm B k n (mk x) := funext fun x => (ih x).symm
    rw [e]
    exact hs _ x

/-- A loop, where its rounds are told. -/
theorem loop_eq {R : Type} {g0 : List Bool} {subs : Subs R} {c d : Code} {nm : Norm} {an : AN} {k : AExit → St → Option R} {X : Type} {mk : X → St} {s : (X → Option R) → X → Option R} {l : Nat → X → Option R}
    (hc : partOf c (.loop nm an) = .loop nm (partOf d an)) (hn : ∀ (G : St → Option R) x, normK g0 nm (mk x) G = G (mk x))
    (hs : ∀ (F : St → Option R) x, runK R T fns fuel g0 subs (partOf d an) (mk x) (backTo R g0 nm F k) = s (fun x => F (mk x)) x)
    (h0 : ∀ x, l 0 x = none) (h1 : ∀ n x, l (n + 1) x = s (l n) x) (x : X) : runK R T fns fuel g0 subs (partOf c (.loop nm an)) (mk x) k = l fuel x := by
  rw [hc]
  show normK g0 nm (mk x) (fun st' => roundsK R g0 nm (fun st k => runK R T fns fuel g0 subs (partOf d an) st k) k fuel st') = _
  rw [hn]
  exact rounds_eq (B := fun st k => runK R T fns fuel g0 subs (partOf d an) st k) hs h0 h1 fuel x
end
end Go.Am
