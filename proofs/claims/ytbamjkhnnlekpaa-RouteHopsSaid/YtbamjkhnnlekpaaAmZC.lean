/- The abstract machine: ZA ZB ZC. -/
import Derived.Test.YtbamjkhnnlekpaaAmZ
import Derived.KernelRfl
/- The abstract machine, twenty-seventh part: a function's code with what the machine is told beside it. -/
namespace Go.Am

/-- A value's kind. -/
def AVal.tag : AVal → Nat
  | .dat _ _ _ => 0 | .pair _ _ => 1 | .one _ => 2 | .ptr _ _ _ => 3 | .nilp => 4 | .ref _ _ _ => 5 | .slc _ _ => 6 | .sub _ _ _ _ _ => 7 | .nils => 8
  | .map _ => 9 | .nilm => 10 | .fn _ _ => 11 | .nilf => 12 | .iface _ _ => 13 | .nili => 14 | .tup _ => 15 | .nil => 16 | .cons _ _ => 17 | .junk => 18

def slotTag (st : St) (i k : Nat) : Bool := match st.slots i with
  | some v => Nat.beq v.tag k
  | none => false

def freeAt (st : St) (r : Nat) : Bool := match st.σ[r]? with
  | some .free => true
  | _ => false

/-- What is told beside a function's code, node by node. -/
inductive AN where
  | leaf
  | region (l : List (Nat × Ann))
  /-- the step at that place has more than one outcome -/
  | wild (i : Nat) (l : List (Nat × Ann))
  | seq (a b : AN)
  | cond (a b : AN)
  | block (a : AN)
  | loop (nm : Norm) (a : AN)
  | scope (a : AN)
  | ret (ks : List (Option (Nat × Nat)))
  | norm (nm : Norm) (a : AN)
  | fin (nm : Norm) (a : AN)
  | co (c : Coe) (a : AN)
  | finco (c : Coe) (a : AN)
  | either (t : St → Bool) (a b : AN)
  | hole (nm : Norm) (i : Nat)

def annAt : List (Nat × Ann) → Nat → Ann
  | [], _ => {}
  | (i, an) :: l, j => bif Nat.beq j i then an else annAt l j

def guardOf (ops : List Oper) : Option (Nat × Bool) → Option (Nat × Bool)
  | none => none
  | some (j, w) => match ops[j]? with
    | some o => match o.dst with
      | some d => some (d, w)
      | none => none
    | none => none

def toAOps (ops : List Oper) (l : List (Nat × Ann)) : Nat → List Oper → List AOp
  | _, [] => []
  | i, o :: os => ⟨o, annAt l i, guardOf ops o.guard⟩ :: toAOps ops l (i + 1) os

def cutAt {A : Type} : Nat → List A → Option (List A × A × List A)
  | _, [] => none
  | 0, x :: l => some ([], x, l)
  | i + 1, x :: l => match cutAt i l with
    | some (p, o, q) => some (x :: p, o, q)
    | none => none

theorem cutAt_eq {A : Type} : ∀ (i : Nat) (l : List A) {p q : List A} {o : A}, cutAt i l = some (p, o, q) → p ++ o :: q = l
  | 0, [], _, _, _, h => by cases h
  | _ + 1, [], _, _, _, h => by cases h
  | 0, x :: l, _, _, _, h => by cases h; rfl
  | i + 1, x :: l, p, q, o, h => by
    simp only [cutAt] at h
    split at h
    · rename_i p' o' q' h1
      cases h
      have := cutAt_eq i l h1
      rw [← this]; rfl
    · cases h

def toA : Code → AN → Option ACode
  | c, .norm nm a => match toA c a with | some a => some (.norm nm a) | none => none
  | c, .fin nm a => match toA c a with | some a => some (.fin nm a) | none => none
  | c, .co e a => match toA c a with | some a => some (.co e a) | none => none
  | c, .finco e a => match toA c a with | some a => some (.finco e a) | none => none
  | c, .either t a b => match toA c a, toA c b with | some a, some b => some (.either t a b) | _, _ => none
  | c, .hole nm i => some (.hole nm i c)
  | .region id ops draw, .region l => some (.region id (toAOps ops.toList l 0 ops.toList) draw)
  | .region id ops draw, .wild i l => match cutAt i (toAOps ops.toList l 0 ops.toList) with
    | some (pre, o, post) => bif draw then none else some (.wild id pre o post)
    | none => none
  | .region id ops draw, .leaf => some (.region id (toAOps ops.toList [] 0 ops.toList) draw)
  | .seq c d, .seq a b => match toA c a, toA d b with | some a, some b => some (.seq a b) | _, _ => none
  | .cond o c d, .cond a b => match toA c a, toA d b with | some a, some b => some (.cond o a b) | _, _ => none
  | .block id c, .block a => match toA c a with | some a => some (.block id a) | none => none
  | .loop c, .loop nm a => match toA c a with | some a => some (.loop nm a) | none => none
  | .scope c, .scope a => match toA c a with | some a => some (.scope a) | none => none
  | .skip, .leaf => some .skip
  | .exit id, .leaf => some (.exit id)
  | .ret, .ret ks => some (.ret ks)
  | .ret, .leaf => some (.ret [])
  | _, _ => none
termination_by structural _ an => an

theorem toAOps_o (ops : List Oper) (l : List (Nat × Ann)) : ∀ (os : List Oper) (i : Nat), (toAOps ops l i os).map (·.o) = os := by
  intro os
  induction os with
  | nil => intro i; rfl
  | cons o os ih => intro i; simp only [toAOps, List.map_cons, ih]

theorem toA_erase : ∀ (an : AN) (c : Code) (a : ACode), toA c an = some a → a.erase = c := by
  intro an
  induction an with
  | leaf =>
    intro c a h
    cases c <;> simp only [toA] at h <;> first
      | (cases h; done)
      | (cases h; rfl)
      | (cases h; simp [ACode.erase, toAOps_o])
  | region l =>
    intro c a h
    cases c <;> simp only [toA] at h <;> first
      | (cases h; done)
      | (cases h; simp [ACode.erase, toAOps_o])
  | wild i l =>
    intro c a h
    cases c <;> simp only [toA] at h <;> try (cases h; done)
    split at h
    · rename_i ops draw _ pre o post h1
      cases draw with
      | true => cases h
      | false =>
        cases h
        simp only [ACode.erase]
        rw [cutAt_eq _ _ h1, toAOps_o]
    · cases h
  | seq x y ihx ihy =>
    intro c a h
    cases c <;> simp only [toA] at h <;> try (cases h; done)
    split at h
    · rename_i h1 h2; cases h; simp only [ACode.erase, ihx _ _ h1, ihy _ _ h2]
    · cases h
  | cond x y ihx ihy =>
    intro c a h
    cases c <;> simp only [toA] at h <;> try (cases h; done)
    split at h
    · rename_i h1 h2; cases h; simp only [ACode.erase, ihx _ _ h1, ihy _ _ h2]
    · cases h
  | block x ih =>
    intro c a h
    cases c <;> simp only [toA] at h <;> try (cases h; done)
    split at h
    · rename_i h1; cases h; simp only [ACode.erase, ih _ _ h1]
    · cases h
  | loop nm x ih =>
    intro c a h
    cases c <;> simp only [toA] at h <;> try (cases h; done)
    split at h
    · rename_i h1; cases h; simp only [ACode.erase, ih _ _ h1]
    · cases h
  | scope x ih =>
    intro c a h
    cases c <;> simp only [toA] at h <;> try (cases h; done)
    split at h
    · rename_i h1; cases h; simp only [ACode.erase, ih _ _ h1]
    · cases h
  | ret ks =>
    intro c a h
    cases c <;> simp only [toA] at h <;> try (cases h; done)
    cases h; rfl
  | norm nm x ih =>
    intro c a h
    simp only [toA] at h
    split at h
    · rename_i h1; cases h; have := ih _ _ h1; exact this
    · cases h
  | fin nm x ih =>
    intro c a h
    simp only [toA] at h
    split at h
    · rename_i h1; cases h; have := ih _ _ h1; exact this
    · cases h
  | co e x ih =>
    intro c a h
    simp only [toA] at h
    split at h
    · rename_i h1; cases h; have := ih _ _ h1; exact this
    · cases h
  | finco e x ih =>
    intro c a h
    simp only [toA] at h
    split at h
    · rename_i h1; cases h; have := ih _ _ h1; exact this
    · cases h
  | either t x y ihx ihy =>
    intro c a h
    simp only [toA] at h
    split at h
    · rename_i h1 h2; cases h; have := ihx _ _ h1; exact this
    · cases h
  | hole nm i =>
    intro c a h
    simp only [toA] at h
    cases h; rfl

theorem toA_same : ∀ (an : AN) (c : Code) (a : ACode), toA c an = some a → a.same := by
  intro an
  induction an with
  | leaf =>
    intro c a h
    cases c <;> simp only [toA] at h <;> first
      | (cases h; done)
      | (cases h; trivial)
  | region l =>
    intro c a h
    cases c <;> simp only [toA] at h <;> first
      | (cases h; done)
      | (cases h; trivial)
  | wild i l =>
    intro c a h
    cases c <;> simp only [toA] at h <;> try (cases h; done)
    split at h
    · rename_i ops draw _ pre o post h1
      cases draw with
      | true => cases h
      | false => cases h; trivial
    · cases h
  | seq x y ihx ihy =>
    intro c a h
    cases c <;> simp only [toA] at h <;> try (cases h; done)
    split at h
    · rename_i h1 h2; cases h; exact ⟨ihx _ _ h1, ihy _ _ h2⟩
    · cases h
  | cond x y ihx ihy =>
    intro c a h
    cases c <;> simp only [toA] at h <;> try (cases h; done)
    split at h
    · rename_i h1 h2; cases h; exact ⟨ihx _ _ h1, ihy _ _ h2⟩
    · cases h
  | block x ih =>
    intro c a h
    cases c <;> simp only [toA] at h <;> try (cases h; done)
    split at h
    · rename_i h1; cases h; have h2 := ih _ _ h1; exact h2
    · cases h
  | loop nm x ih =>
    intro c a h
    cases c <;> simp only [toA] at h <;> try (cases h; done)
    split at h
    · rename_i h1; cases h; have h2 := ih _ _ h1; exact h2
    · cases h
  | scope x ih =>
    intro c a h
    cases c <;> simp only [toA] at h <;> try (cases h; done)
    split at h
    · rename_i h1; cases h; have h2 := ih _ _ h1; exact h2
    · cases h
  | ret ks =>
    intro c a h
    cases c <;> simp only [toA] at h <;> try (cases h; done)
    cases h; trivial
  | norm nm x ih | fin nm x ih | co nm x ih | finco nm x ih =>
    intro c a h
    simp only [toA] at h
    split at h
    · rename_i h1; cases h; have h2 := ih _ _ h1; exact h2
    · cases h
  | either t x y ihx ihy =>
    intro c a h
    simp only [toA] at h
    split at h
    · rename_i h1 h2; cases h; exact ⟨ihx _ _ h1, ihy _ _ h2, (toA_erase _ _ _ h2).trans (toA_erase _ _ _ h1).symm⟩
    · cases h
  | hole nm i =>
    intro c a h
    simp only [toA] at h
    cases h; trivial

def codeOf (fn : Func) (an : AN) : ACode := match fn.body with
  | some c => match toA c an with
    | some a => a
    | none => .skip
  | none => .skip

def codeThere (fn : Func) (an : AN) : Bool := match fn.body with
  | some c => match toA c an with
    | some _ => true
    | none => false
  | none => false

theorem codeOf_erase {fn : Func} {an : AN} (h : codeThere fn an = true) : fn.body = some (codeOf fn an).erase := by
  unfold codeThere at h
  unfold codeOf
  split at h
  · rename_i c hc
    split at h
    · rename_i a ha
      simp only [hc, toA_erase _ _ _ ha]
    · cases h
  · cases h

theorem codeOf_same {fn : Func} {an : AN} : (codeOf fn an).same := by
  unfold codeOf
  split
  · split
    · rename_i ha; exact toA_same _ _ _ ha
    · trivial
  · trivial

def defOf (fn : Func) (an : AN) (room : Nat) (ks : List (Option (Nat × Nat))) (g0 : List Bool) : FunDef := ⟨codeOf fn an, fn.results.toList, fn.ntmps, room, ks, g0⟩

section
variable {P : Program} {T : Tbl} {fns : Fns} {fuel : Nat}

def defThere (fn : Func) (an : AN) : Bool := codeThere fn an && (codeOf fn an).ok fn.ntmps && !(fn.name == "runtime.NumGoroutine")

theorem funOk_def {Y Z : Type} (hT : TblOk P T) (hfns : FnsOk P fns) (hm : P.follows .mixedOrders = true) {f : FuncId} {fn : Func} {an : AN} {room : Nat} {ks : List (Option (Nat × Nat))} {g0 : List Bool} (hf : P.funcs[f]? = some fn) (hd : defThere fn an = true)
    {subs : Subs Z} (hsubs : SubsOk P g0 fn.ntmps subs) (hh : (codeOf fn an).holes = (codeOf fn an).fills subs)
    (inp : List AVal → List AObj → Option Y) (plain : Y → Option Z) (dec : AVal → List AObj → Option Z) (encV : Z → AVal) (encO : Z → List AObj)
    (hdec : ∀ v os z, dec v os = some z → v = encV z ∧ os = encO z)
    (hrun : ∀ args objs y, inp args objs = some y → (Nat.ble args.length fn.ntmps = true ∧ objs.map AObj.arr0 = g0) ∧ runF Z T fns fuel subs (defOf fn an room ks g0) args objs dec = plain y) :
    FunOk P f (funAs inp plain encV encO) := by
  unfold defThere at hd
  rw [Bool.and_eq_true, Bool.and_eq_true] at hd
  obtain ⟨⟨h1, h2⟩, h3⟩ := hd
  exact funOk_of (fd := defOf fn an room ks g0) hT hfns hm hf (by simpa using h3) (codeOf_erase h1) rfl rfl h2 codeOf_same hsubs hh inp plain dec encV encO hdec hrun

/-- The part of a code at a place. -/
def codeAt : Code → List Nat → Code
  | .seq c _, 0 :: p => codeAt c p
  | .seq _ d, 1 :: p => codeAt d p
  | .cond _ c _, 0 :: p => codeAt c p
  | .cond _ _ d, 1 :: p => codeAt d p
  | .block _ c, 0 :: p => codeAt c p
  | .loop c, 0 :: p => codeAt c p
  | .scope c, 0 :: p => codeAt c p
  | .rangeFunc _ _ c _, 0 :: p => codeAt c p
  | .rangeFunc _ _ _ c, 1 :: p => codeAt c p
  | c, _ => c

def bodyAt (fn : Func) (p : List Nat) : Code := match fn.body with
  | some c => codeAt c p
  | none => .skip

def partOf (c : Code) (an : AN) : ACode := match toA c an with
  | some a => a
  | none => .skip
def partThere (N : Nat) (c : Code) (an : AN) : Bool := match toA c an with
  | some a => a.ok N
  | none => false

theorem subOk_part {R : Type} (hT : TblOk P T) (hfns : FnsOk P fns) (hm : P.follows .mixedOrders = true) {N : Nat} {g0 : List Bool} {subs : Subs R} (hsubs : SubsOk P g0 N subs) {s : Sub R} {an : AN} (hd : partThere N s.code an = true)
    (hh : (partOf s.code an).holes = (partOf s.code an).fills subs)
    (hrun : ∀ args objs k z, s.run args objs k = some z → runK R T fns fuel g0 subs (partOf s.code an) ⟨slotsAt s.live args, objs⟩ k = some z) : SubOk P g0 N s := by
  unfold partThere at hd
  split at hd
  · rename_i a ha
    have e : partOf s.code an = a := by unfold partOf; rw [ha]
    rw [e] at hh
    refine subOk_of (fuel := fuel) hT hfns hm hsubs hd (toA_same _ _ _ ha) hh (toA_erase _ _ _ ha) fun args objs k z h => ?_
    rw [← e]
    exact hrun args objs k z h
  · cases hd

/-- Parts, listed. -/
def subsOf {R : Type} : List (Sub R) → Subs R
  | [], _ => none
  | s :: _, 0 => some s
  | _ :: l, i + 1 => subsOf l i

theorem subsOf_ok {R : Type} {g0 : List Bool} {N : Nat} : ∀ (l : List (Sub R)), (∀ s ∈ l, SubOk P g0 N s) → SubsOk P g0 N (subsOf l) := by
  intro l
  induction l with
  | nil => intro _ i s h; cases h
  | cons s l ih =>
    intro hl i s' h
    cases i with
    | zero => cases h; exact hl _ (by simp)
    | succ i => exact ih (fun s hs => hl s (by simp [hs])) i s' h

/-- A loop's rounds, where a round from a told state is told. -/
theorem rounds_eq {R : Type} {g0 : List Bool} {nm : Norm} {B : St → (AExit → St → Option R) → Option R} {k : AExit → St → Option R} {X : Type} {mk : X → St} {s : (X → Option R) → X → Option R} {l : Nat → X → Option R}
    (hs : ∀ (F : St → Option R) x, B (mk x) (backTo R g0 nm F k) = s (fun x => F (mk x)) x)
    (h0 : ∀ x, l 0 x = none) (h1 : ∀ n x, l (n + 1) x = s (l n) x) : ∀ n x, roundsK R g0 nm B k n (mk x) = l n x := by
  intro n
  induction n with
  | zero => intro x; exact (h0 x).symm
  | succ n ih =>
    intro x
    rw [h1]
    have e : l n = fun x => roundsK R g0 nm B k n (mk x) := funext fun x => (ih x).symm
    rw [e]
    exact hs _ x

/-- A loop, where its rounds are told. -/
theorem loop_eq {R : Type} {g0 : List Bool} {subs : Subs R} {c d : Code} {nm : Norm} {an : AN} {k : AExit → St → Option R} {X : Type} {mk : X → St} {s : (X → Option R) → X → Option R} {l : Nat → X → Option R}
    (hc : partOf c (.loop nm an) = .loop nm (partOf d an)) (hn : ∀ (G : St → Option R) x, normK g0 nm (mk x) G = G (mk x))
    (hs : ∀ (F : St → Option R) x, runK R T fns fuel g0 subs (partOf d an) (mk x) (backTo R g0 nm F k) = s (fun x => F (mk x)) x)
    (h0 : ∀ x, l 0 x = none) (h1 : ∀ n x, l (n + 1) x = s (l n) x) (x : X) : runK R T fns fuel g0 subs (partOf c (.loop nm an)) (mk x) k = l fuel x := by
  rw [hc]
  show normK g0 nm (mk x) (fun st' => roundsK R g0 nm (fun st k => runK R T fns fuel g0 subs (partOf d an) st k) k fuel st') = _
  rw [hn]
  exact rounds_eq (B := fun st k => runK R T fns fuel g0 subs (partOf d an) st k) hs h0 h1 fuel x
end
end Go.Am

/- The abstract machine, twenty-eighth part: the table of types, checked. -/
namespace Go.Am

def tblOf : List (TypeId × TD) → Tbl
  | [], _ => none
  | (t', d) :: l, t => bif Nat.beq t t' then some d else tblOf l t

theorem tblOf_ok {P : Program} : ∀ (l : List (TypeId × TD)), (∀ p ∈ l, TdOk P p.1 p.2) → TblOk P (tblOf l) := by
  intro l
  induction l with
  | nil => intro _ t d h; cases h
  | cons p l ih =>
    intro hp t d h
    obtain ⟨t', d'⟩ := p
    simp only [tblOf] at h
    cases hb : Nat.beq t t' with
    | true => rw [hb] at h; cases h; rw [Nat.eq_of_beq_eq_true hb]; exact hp (t', d) (by simp)
    | false => rw [hb] at h; exact ih (fun p hm => hp p (by simp [hm])) t d h

/-- The cells of a plain type's data. -/
def Ty.cells : (t : Ty) → t.den → Option (List Value)
  | .int k, n => some [.int k n]
  | .bool, b => some [.bool b]
  | .str, s => some [.string s]
  | .unit, _ => some []
  | .one a, x => Ty.cells a x
  | .pair a b, x => match Ty.cells a x.1, Ty.cells b x.2 with | some c, some d => some (c ++ d) | _, _ => none
  | .arr n a, xs => bif Nat.beq xs.length n then cellsAll (Ty.cells a) xs else none
  | .slice _, xs => bif List.isEmpty xs then some [.slice none 0 0] else none
  | .pref _, p => match p with | none => some [.pointer none] | some _ => none
where
  cellsAll {α : Type} (f : α → Option (List Value)) : List α → Option (List Value)
    | [] => some []
    | x :: xs => match f x, cellsAll f xs with | some c, some d => some (c ++ d) | _, _ => none

/-- The cells of a value that holds no reference. -/
def zeroA : AVal → Option (List Value)
  | .dat _ t d => Ty.cells t d
  | .pair a b => match zeroA a, zeroA b with | some c, some d => some (c ++ d) | _, _ => none
  | .one a => zeroA a
  | .nilp => some [.pointer none]
  | .nils => some [.slice none 0 0]
  | .nilm => some [.map none]
  | .nilf => some [.nilFunc]
  | .nili => some [.nilIface]
  | _ => none

theorem cellsAll_all2 {α : Type} {f : α → Option (List Value)} {Q : α → List Value → Prop} : ∀ (xs : List α) (cs : List Value), (∀ x c, f x = some c → Q x c) → Ty.cells.cellsAll f xs = some cs → ∃ css, cs = css.flatten ∧ All2 Q xs css := by
  intro xs
  induction xs with
  | nil => intro cs _ h; cases h; exact ⟨[], rfl, .nil⟩
  | cons x xs ih =>
    intro cs hq h
    simp only [Ty.cells.cellsAll] at h
    split at h
    · rename_i c d h1 h2
      cases h
      obtain ⟨css, rfl, h3⟩ := ih d hq h2
      exact ⟨c :: css, rfl, .cons (hq _ _ h1) h3⟩
    · cases h

theorem cells_rel {h : Heap} {S : Fz} : ∀ (t : Ty) (d : t.den) (cs : List Value), t.cells d = some cs → t.Rel h S d cs := by
  intro t
  induction t with
  | int k => intro d cs e; cases e; rfl
  | bool => intro d cs e; cases e; rfl
  | str => intro d cs e; cases e; rfl
  | unit => intro d cs e; cases e; rfl
  | one a ih => exact fun d cs e => ih d cs e
  | pair a b iha ihb =>
    intro d cs e
    simp only [Ty.cells] at e
    split at e
    · rename_i c1 c2 h1 h2; cases e; exact ⟨c1, c2, rfl, iha _ _ h1, ihb _ _ h2⟩
    · cases e
  | arr n a ih =>
    intro d cs e
    simp only [Ty.cells] at e
    obtain ⟨h1, e⟩ := cond_some e
    obtain ⟨css, h2, h3⟩ := cellsAll_all2 d cs ih e
    exact ⟨Nat.eq_of_beq_eq_true h1, css, h2, h3⟩
  | slice a _ =>
    intro d cs e
    simp only [Ty.cells] at e
    obtain ⟨h1, e⟩ := cond_some e
    cases e
    obtain rfl : d = [] := List.isEmpty_iff.1 h1
    exact ⟨none, 0, 0, rfl, rfl, Nat.le_refl _, fun _ => rfl, fun h => absurd h (by simp)⟩
  | pref k =>
    intro d cs e
    cases d with
    | none => cases e; rfl
    | some j => cases e

theorem zeroA_C {x : Ctx} : ∀ (v : AVal) (cs : List Value), zeroA v = some cs → v.C x cs := by
  intro v
  induction v with
  | dat p t d => exact fun cs e => cells_rel t d cs e
  | pair a b iha ihb =>
    intro cs e
    simp only [zeroA] at e
    split at e
    · rename_i c1 c2 h1 h2; cases e; exact ⟨c1, c2, rfl, iha _ h1, ihb _ h2⟩
    · cases e
  | one a ih => exact fun cs e => ih cs e
  | nilp => intro cs e; cases e; rfl
  | nils => intro cs e; cases e; exact ⟨none, rfl⟩
  | nilm => intro cs e; cases e; rfl
  | nilf => intro cs e; cases e; rfl
  | nili => intro cs e; cases e; rfl
  | _ => intro cs e; cases e

theorem tdOk_of {P : Program} {t : TypeId} {d : TD} {i : TypeInfo} {cs : List Value} (h1 : P.info? t = some i) (h2 : (Nat.beq i.size d.size && Nat.beq i.bytes d.bytes && (d.zero.agg || Nat.beq cs.length 1)) = true)
    (h4 : zeroA d.zero = some cs) (h5 : i.zero = some (valueOf d.zero.agg cs)) (h6 : UndOk P t d.und) (h7 : d.cmp = true → P.stoodInHeld t = false ∧ P.eqGuardType P.depth t = false) : TdOk P t d := by
  rw [Bool.and_eq_true, Bool.and_eq_true] at h2
  obtain ⟨⟨h2, h3⟩, h8⟩ := h2
  refine ⟨⟨i, h1, Nat.eq_of_beq_eq_true h2, Nat.eq_of_beq_eq_true h3, _, h5, fun x => V_valueOf (zeroA_C _ _ h4) fun ha => ?_⟩, h6, h7⟩
  rw [ha, Bool.false_or] at h8
  exact Nat.eq_of_beq_eq_true h8

def infoAt (P : Program) (t : TypeId) : TypeInfo := match P.info? t with | some i => i | none => default
def cellsOfTD (d : TD) : List Value := match zeroA d.zero with | some cs => cs | none => []

theorem undStruct {P : Program} {t : TypeId} {fs : List (Nat × TypeId)} (fields : Array Field) (h1 : P.underlying t = some (.struct fields)) (h2 : fields.toList.map (fun f => (f.offset, f.type)) = fs) (h3 : fields.toList.all (fun f => f.name != "_") = true) : UndOk P t (.struct fs) :=
  ⟨fields, h1, h2, fun f hf => by simpa using List.all_eq_true.1 h3 f hf⟩
def fieldsAt (P : Program) (t : TypeId) : Array Field := match P.underlying t with | some (.struct fs) => fs | _ => #[]
def descAt (P : Program) (t : TypeId) : TypeDesc := match P.underlying t with | some d => d | none => default

end Go.Am

/- The abstract machine, twenty-ninth part: shapes of states, whose data are a plain Lean tuple. -/
namespace Go.Am

/-- The shape of a value: data, or what is always the same. -/
inductive Tm where
  | d (p : Bool) (t : Ty)
  | c (v : AVal)
  | pair (a b : Tm)
  | one (a : Tm)
  | fn (f : FuncId) (a : Tm)
  | tup (a : Tm)
  | cons (a b : Tm)
  | sub (r g : Nat) (ex : Bool)
  | ptr (r g : Nat) (pre post : Path)
  | ref (p : Bool) (t : Ty)

/-- The shape of an object. -/
inductive To where
  | box (a : Tm)
  | arr (g : Nat) (t : Ty)
  | map (K V : Ty)
  | iter (rm : Nat)
  | vmap (K : Ty) (l : List Tm)
  | pool (t : Ty)
  | free
  | dead

/-- Types one behind the other, as one. -/
def Prods : List Type → Type
  | [] => Unit
  | [A] => A
  | A :: B :: l => A × Prods (B :: l)

def spl : (l m : List Type) → Prods (l ++ m) → Prods l × Prods m
  | [], _, p => ((), p)
  | [_], [], p => (p, ())
  | [_], _ :: _, p => (p.1, p.2)
  | _ :: B :: l, m, p => ((p.1, (spl (B :: l) m p.2).1), (spl (B :: l) m p.2).2)

def mrg : (l m : List Type) → Prods l → Prods m → Prods (l ++ m)
  | [], _, _, y => y
  | [_], [], x, _ => x
  | [_], _ :: _, x, y => (x, y)
  | _ :: B :: l, m, x, y => (x.1, mrg (B :: l) m x.2 y)

theorem spl_mrg : ∀ (l m : List Type) (x : Prods l) (y : Prods m), spl l m (mrg l m x y) = (x, y)
  | [], _, _, _ => rfl
  | [_], [], _, _ => rfl
  | [_], _ :: _, _, _ => rfl
  | A :: B :: l, m, x, y => by
    show ((x.1, (spl (B :: l) m (mrg (B :: l) m x.2 y)).1), (spl (B :: l) m (mrg (B :: l) m x.2 y)).2) = (x, y)
    rw [spl_mrg (B :: l) m x.2 y]
    rfl

/-- The data of a shape. -/
def Tm.comps : Tm → List Type
  | .d _ t => [t.den]
  | .c _ => []
  | .pair a b | .cons a b => a.comps ++ b.comps
  | .one a | .fn _ a | .tup a => a.comps
  | .sub _ _ _ => [Nat, Nat]
  | .ptr _ _ _ _ => [Nat]
  | .ref _ t => [t.den]

def vmComps (K : Ty) : List Tm → List Type
  | [] => []
  | t :: l => [K.den] ++ (t.comps ++ vmComps K l)

def To.comps : To → List Type
  | .box a => a.comps
  | .arr _ t => [List t.den]
  | .map K V => [List (K.den × V.den), List Nat, Nat]
  | .iter _ => [Nat, List Nat]
  | .vmap K l => vmComps K l
  | .pool t => [List t.den]
  | .free | .dead => []

def Tm.den (t : Tm) : Type := Prods t.comps
def To.den (t : To) : Type := Prods t.comps

def stepBeq : Step → Step → Bool
  | .fst, .fst | .snd, .snd | .one, .one => true
  | .idx i, .idx j => Nat.beq i j
  | _, _ => false
def pathBeq : Path → Path → Bool
  | [], [] => true
  | s :: p, s' :: p' => stepBeq s s' && pathBeq p p'
  | _, _ => false

/-- Are two values, that hold no data, the same? -/
def sameC : AVal → AVal → Bool
  | .ptr r g p, .ptr r' g' p' => Nat.beq r r' && Nat.beq g g' && pathBeq p p'
  | .nilp, .nilp | .nils, .nils | .nilm, .nilm | .nilf, .nilf | .nili, .nili | .nil, .nil | .junk, .junk => true
  | .slc r g, .slc r' g' => Nat.beq r r' && Nat.beq g g'
  | .map r, .map r' => Nat.beq r r'
  | .fn f a, .fn f' a' => Nat.beq f f' && sameC a a'
  | .cons a b, .cons a' b' => sameC a a' && sameC b b'
  | .pair a b, .pair a' b' => sameC a a' && sameC b b'
  | _, _ => false

theorem pathBeq_eq : ∀ (p q : Path), pathBeq p q = true → p = q := by
  intro p
  induction p with
  | nil => intro q h; cases q <;> first | rfl | cases h
  | cons s p ih =>
    intro q h
    cases q with
    | nil => cases h
    | cons s' q =>
      simp only [pathBeq, Bool.and_eq_true] at h
      rw [ih q h.2]
      congr 1
      cases s <;> cases s' <;> first | rfl | (cases h.1; done) | (rw [Nat.eq_of_beq_eq_true h.1])

theorem sameC_eq : ∀ (v w : AVal), sameC v w = true → v = w := by
  intro v
  induction v with
  | ptr r g p =>
    intro w h
    cases w <;> simp only [sameC, Bool.and_eq_true] at h <;> try (cases h; done)
    rw [Nat.eq_of_beq_eq_true h.1.1, Nat.eq_of_beq_eq_true h.1.2, pathBeq_eq _ _ h.2]
  | slc r g =>
    intro w h
    cases w <;> simp only [sameC, Bool.and_eq_true] at h <;> try (cases h; done)
    rw [Nat.eq_of_beq_eq_true h.1, Nat.eq_of_beq_eq_true h.2]
  | map r =>
    intro w h
    cases w <;> simp only [sameC] at h <;> try (cases h; done)
    rw [Nat.eq_of_beq_eq_true h]
  | fn f a ih =>
    intro w h
    cases w <;> simp only [sameC, Bool.and_eq_true] at h <;> try (cases h; done)
    rw [Nat.eq_of_beq_eq_true h.1, ih _ h.2]
  | cons a b iha ihb =>
    intro w h
    cases w <;> simp only [sameC, Bool.and_eq_true] at h <;> try (cases h; done)
    rw [iha _ h.1, ihb _ h.2]
  | pair a b iha ihb =>
    intro w h
    cases w <;> simp only [sameC, Bool.and_eq_true] at h <;> try (cases h; done)
    rw [iha _ h.1, ihb _ h.2]
  | _ => intro w h; cases w <;> first | rfl | cases h

def Tm.enc : (t : Tm) → t.den → AVal
  | .d p t, x => .dat p t x
  | .c v, _ => v
  | .pair a b, x => .pair (a.enc (spl a.comps b.comps x).1) (b.enc (spl a.comps b.comps x).2)
  | .cons a b, x => .cons (a.enc (spl a.comps b.comps x).1) (b.enc (spl a.comps b.comps x).2)
  | .one a, x => .one (a.enc x)
  | .fn f a, x => .fn f (a.enc x)
  | .tup a, x => .tup (a.enc x)
  | .sub r g ex, x => .sub r g x.1 x.2 ex
  | .ptr r g pre post, i => .ptr r g (pre ++ .idx i :: post)
  | .ref p t, x => .ref p t x

/-- Two parts' data as one. -/
def both (l m : List Type) (a : Option (Prods l)) (b : Option (Prods m)) : Option (Prods (l ++ m)) := match a, b with
  | some x, some y => some (mrg l m x y)
  | _, _ => none

theorem both_some {l m : List Type} {a : Option (Prods l)} {b : Option (Prods m)} {p : Prods (l ++ m)} (h : both l m a b = some p) : a = some (spl l m p).1 ∧ b = some (spl l m p).2 := by
  cases a with
  | none => cases h
  | some x =>
    cases b with
    | none => cases h
    | some y =>
      simp only [both, Option.some.injEq] at h
      subst h
      rw [spl_mrg]; exact ⟨rfl, rfl⟩

def two {α β : Type} (a : Option α) (b : Option β) : Option (α × β) := match a, b with | some x, some y => some (x, y) | _, _ => none

theorem two_some {α β : Type} {a : Option α} {b : Option β} {p : α × β} (h : two a b = some p) : a = some p.1 ∧ b = some p.2 := by
  unfold two at h
  split at h
  · cases h; exact ⟨rfl, rfl⟩
  · cases h

def decD (p : Bool) (t : Ty) : AVal → Option t.den
  | .dat q t' x => bif p == q then (if h : t' = t then some (h ▸ x) else none) else none
  | _ => none
def asPair : AVal → Option (AVal × AVal)
  | .pair a b => some (a, b)
  | _ => none
def asCons : AVal → Option (AVal × AVal)
  | .cons a b => some (a, b)
  | _ => none
def asOne : AVal → Option AVal
  | .one a => some a
  | _ => none
def asTup : AVal → Option AVal
  | .tup a => some a
  | _ => none
def asFn (f : FuncId) : AVal → Option AVal
  | .fn f' a => bif Nat.beq f f' then some a else none
  | _ => none
def asSub (r g : Nat) (ex : Bool) : AVal → Option (Nat × Nat)
  | .sub r' g' lo len ex' => bif Nat.beq r r' && Nat.beq g g' && (ex == ex') then some (lo, len) else none
  | _ => none

theorem decD_eq {p : Bool} {t : Ty} {v : AVal} {x : t.den} (h : decD p t v = some x) : v = .dat p t x := by
  unfold decD at h
  split at h
  · obtain ⟨h1, h⟩ := cond_some h
    split at h
    · rename_i ht; subst ht; cases h
      have e := eq_of_beq h1
      rw [← e]
    · cases h
  · cases h
theorem asPair_eq {v a b : AVal} (h : asPair v = some (a, b)) : v = .pair a b := by
  unfold asPair at h; split at h <;> cases h; rfl
theorem asCons_eq {v a b : AVal} (h : asCons v = some (a, b)) : v = .cons a b := by
  unfold asCons at h; split at h <;> cases h; rfl
theorem asOne_eq {v a : AVal} (h : asOne v = some a) : v = .one a := by
  unfold asOne at h; split at h <;> cases h; rfl
theorem asTup_eq {v a : AVal} (h : asTup v = some a) : v = .tup a := by
  unfold asTup at h; split at h <;> cases h; rfl
theorem asFn_eq {f : FuncId} {v a : AVal} (h : asFn f v = some a) : v = .fn f a := by
  unfold asFn at h
  split at h
  · obtain ⟨h1, h⟩ := cond_some h; cases h; rw [Nat.eq_of_beq_eq_true h1]
  · cases h
theorem asSub_eq {r g : Nat} {ex : Bool} {v : AVal} {x : Nat × Nat} (h : asSub r g ex v = some x) : v = .sub r g x.1 x.2 ex := by
  unfold asSub at h
  split at h
  · obtain ⟨h1, h⟩ := cond_some h
    rw [Bool.and_eq_true, Bool.and_eq_true] at h1
    cases h; rw [Nat.eq_of_beq_eq_true h1.1.1, Nat.eq_of_beq_eq_true h1.1.2, beq_iff_eq.1 h1.2]
  · cases h

/-- The open index of a way. -/
def cutPath : Path → Path → Path → Option Nat
  | [], post, .idx i :: p => bif pathBeq post p then some i else none
  | s :: pre, post, s' :: p => bif stepBeq s s' then cutPath pre post p else none
  | _, _, _ => none

theorem stepBeq_eq : ∀ (s s' : Step), stepBeq s s' = true → s = s' := by
  intro s s' h
  cases s <;> cases s' <;> first | rfl | (cases h; done) | (rw [Nat.eq_of_beq_eq_true h])

theorem cutPath_eq : ∀ (pre post p : Path) (i : Nat), cutPath pre post p = some i → p = pre ++ .idx i :: post := by
  intro pre
  induction pre with
  | nil =>
    intro post p i h
    cases p with
    | nil => cases h
    | cons s p =>
      cases s <;> simp only [cutPath] at h <;> first
        | cases h
        | (obtain ⟨h1, h⟩ := cond_some h; cases h; rw [pathBeq_eq _ _ h1]; rfl)
  | cons s pre ih =>
    intro post p i h
    cases p with
    | nil => cases h
    | cons s' p =>
      simp only [cutPath] at h
      obtain ⟨h1, h⟩ := cond_some h
      rw [ih post p i h, stepBeq_eq _ _ h1]; rfl

def asPtr (r g : Nat) (pre post : Path) : AVal → Option Nat
  | .ptr r' g' p => bif Nat.beq r r' && Nat.beq g g' then cutPath pre post p else none
  | _ => none
theorem asPtr_eq {r g : Nat} {pre post : Path} {v : AVal} {i : Nat} (h : asPtr r g pre post v = some i) : v = .ptr r g (pre ++ .idx i :: post) := by
  unfold asPtr at h
  split at h
  · obtain ⟨h1, h⟩ := cond_some h
    rw [Bool.and_eq_true] at h1
    rw [Nat.eq_of_beq_eq_true h1.1, Nat.eq_of_beq_eq_true h1.2, cutPath_eq _ _ _ _ h]
  · cases h
def decRef (p : Bool) (t : Ty) : AVal → Option t.den
  | .ref q t' x => bif p == q then (if h : t' = t then some (h ▸ x) else none) else none
  | _ => none
theorem decRef_eq {p : Bool} {t : Ty} {v : AVal} {x : t.den} (h : decRef p t v = some x) : v = .ref p t x := by
  unfold decRef at h
  split at h
  · obtain ⟨h1, h⟩ := cond_some h
    split at h
    · rename_i ht; subst ht; cases h; rw [beq_iff_eq.1 h1]
    · cases h
  · cases h

def Tm.dec : (t : Tm) → AVal → Option t.den
  | .d p t, v => decD p t v
  | .c v, w => bif sameC v w then some () else none
  | .pair a b, v => match asPair v with | some (u, w) => both a.comps b.comps (a.dec u) (b.dec w) | none => none
  | .cons a b, v => match asCons v with | some (u, w) => both a.comps b.comps (a.dec u) (b.dec w) | none => none
  | .one a, v => match asOne v with | some u => a.dec u | none => none
  | .fn f a, v => match asFn f v with | some u => a.dec u | none => none
  | .tup a, v => match asTup v with | some u => a.dec u | none => none
  | .sub r g ex, v => asSub r g ex v
  | .ptr r g pre post, v => asPtr r g pre post v
  | .ref p t, v => decRef p t v

theorem Tm.dec_enc : ∀ (t : Tm) (v : AVal) (x : t.den), t.dec v = some x → v = t.enc x := by
  intro t
  induction t with
  | d p t => intro v x h; exact decD_eq h
  | c v => intro w x h; simp only [Tm.dec] at h; exact (sameC_eq _ _ (cond_some h).1).symm
  | pair a b iha ihb =>
    intro v x h
    simp only [Tm.dec] at h
    split at h
    · rename_i h1; obtain ⟨h2, h3⟩ := both_some h; rw [asPair_eq h1, iha _ _ h2, ihb _ _ h3]; rfl
    · cases h
  | cons a b iha ihb =>
    intro v x h
    simp only [Tm.dec] at h
    split at h
    · rename_i h1; obtain ⟨h2, h3⟩ := both_some h; rw [asCons_eq h1, iha _ _ h2, ihb _ _ h3]; rfl
    · cases h
  | one a ih =>
    intro v x h
    simp only [Tm.dec] at h
    split at h
    · rename_i h1; rw [asOne_eq h1, ih _ _ h]; rfl
    · cases h
  | fn f a ih =>
    intro v x h
    simp only [Tm.dec] at h
    split at h
    · rename_i h1; rw [asFn_eq h1, ih _ _ h]; rfl
    · cases h
  | tup a ih =>
    intro v x h
    simp only [Tm.dec] at h
    split at h
    · rename_i h1; rw [asTup_eq h1, ih _ _ h]; rfl
    · cases h
  | sub r g ex => intro v x h; exact asSub_eq h
  | ptr r g pre post => intro v x h; exact asPtr_eq h
  | ref p t => intro v x h; exact decRef_eq h

def vmEnc (K : Ty) : (l : List Tm) → Prods (vmComps K l) → List (K.den × AVal)
  | [], _ => []
  | t :: l, x => ((spl [K.den] (t.comps ++ vmComps K l) x).1, t.enc (spl t.comps (vmComps K l) (spl [K.den] (t.comps ++ vmComps K l) x).2).1) :: vmEnc K l (spl t.comps (vmComps K l) (spl [K.den] (t.comps ++ vmComps K l) x).2).2
def vmDec (K : Ty) : (l : List Tm) → List (K.den × AVal) → Option (Prods (vmComps K l))
  | [], m => bif m.isEmpty then some () else none
  | t :: l, m => match m with
    | e :: m => both [K.den] (t.comps ++ vmComps K l) (some e.1) (both t.comps (vmComps K l) (t.dec e.2) (vmDec K l m))
    | [] => none
theorem vmDec_enc (K : Ty) : ∀ (l : List Tm) (m : List (K.den × AVal)) (x : Prods (vmComps K l)), vmDec K l m = some x → m = vmEnc K l x := by
  intro l
  induction l with
  | nil => intro m x h; simp only [vmDec] at h; have := (cond_some h).1; cases m <;> first | rfl | cases this
  | cons t l ih =>
    intro m x h
    cases m with
    | nil => cases h
    | cons e m =>
      have h : both [K.den] (t.comps ++ vmComps K l) (some e.1) (both t.comps (vmComps K l) (t.dec e.2) (vmDec K l m)) = some x := h
      obtain ⟨h1, h2⟩ := both_some h
      obtain ⟨h3, h4⟩ := both_some h2
      have e1 := Option.some.inj h1
      have e2 := t.dec_enc _ _ h3
      have e3 := ih _ _ h4
      show e :: m = (_, _) :: _
      rw [← e1, ← e2, ← e3]

def To.enc : (t : To) → t.den → AObj
  | .box a, x => .box (a.enc x)
  | .arr g t, x => .arr g t x
  | .map K V, x => .map K V x.1 x.2.1 x.2.2
  | .iter rm, x => .iter (.map rm) x.1 x.2
  | .vmap K l, x => .vmap K (vmEnc K l x)
  | .pool t, x => .pool t x
  | .free, _ => .free
  | .dead, _ => .dead

def asBox : AObj → Option AVal
  | .box v => some v
  | _ => none
def asArr (g : Nat) (t : Ty) : AObj → Option (List t.den)
  | .arr g' t' x => bif Nat.beq g g' then (if h : t' = t then some (h ▸ x) else none) else none
  | _ => none
def asMap (K V : Ty) : AObj → Option (MD K V)
  | .map K' V' m bs clk => if h : K' = K then (if g : V' = V then some (h ▸ g ▸ m, bs, clk) else none) else none
  | _ => none
def asIter (rm : Nat) : AObj → Option (Nat × List Nat)
  | .iter (.map r) s l => bif Nat.beq r rm then some (s, l) else none
  | _ => none
def asVmap (K : Ty) : AObj → Option (List (K.den × AVal))
  | .vmap K' m => if h : K' = K then some (h ▸ m) else none
  | _ => none
def asPool (t : Ty) : AObj → Option (List t.den)
  | .pool t' x => if h : t' = t then some (h ▸ x) else none
  | _ => none
def isFree : AObj → Bool
  | .free => true
  | _ => false
def isDead : AObj → Bool
  | .dead => true
  | _ => false

theorem asBox_eq {o : AObj} {v : AVal} (h : asBox o = some v) : o = .box v := by
  unfold asBox at h; split at h <;> cases h; rfl
theorem asArr_eq {g : Nat} {t : Ty} {o : AObj} {x : List t.den} (h : asArr g t o = some x) : o = .arr g t x := by
  unfold asArr at h
  split at h
  · obtain ⟨h1, h⟩ := cond_some h
    split at h
    · rename_i ht; subst ht; cases h; rw [Nat.eq_of_beq_eq_true h1]
    · cases h
  · cases h

theorem asPool_eq {t : Ty} {o : AObj} {x : List t.den} (h : asPool t o = some x) : o = .pool t x := by
  unfold asPool at h
  split at h
  · split at h
    · rename_i ht; subst ht; cases h; rfl
    · cases h
  · cases h

theorem asVmap_eq {K : Ty} {o : AObj} {m : List (K.den × AVal)} (h : asVmap K o = some m) : o = .vmap K m := by
  unfold asVmap at h
  split at h
  · split at h
    · rename_i hk; subst hk; cases h; rfl
    · cases h
  · cases h
theorem asMap_eq {K V : Ty} {o : AObj} {x : MD K V} (h : asMap K V o = some x) : o = .map K V x.1 x.2.1 x.2.2 := by
  unfold asMap at h
  split at h
  · split at h
    · rename_i hk
      split at h
      · rename_i hv; subst hk; subst hv; cases h; rfl
      · cases h
    · cases h
  · cases h

theorem asIter_eq {rm : Nat} {o : AObj} {x : Nat × List Nat} (h : asIter rm o = some x) : o = .iter (.map rm) x.1 x.2 := by
  unfold asIter at h
  split at h
  · obtain ⟨h1, h⟩ := cond_some h
    cases h; rw [Nat.eq_of_beq_eq_true h1]
  · cases h

def To.dec : (t : To) → AObj → Option t.den
  | .box a, o => match asBox o with | some v => a.dec v | none => none
  | .arr g t, o => asArr g t o
  | .map K V, o => asMap K V o
  | .iter rm, o => asIter rm o
  | .vmap K l, o => match asVmap K o with | some m => vmDec K l m | none => none
  | .pool t, o => asPool t o
  | .free, o => bif isFree o then some () else none
  | .dead, o => bif isDead o then some () else none

theorem To.dec_enc (t : To) (o : AObj) (x : t.den) (h : t.dec o = some x) : o = t.enc x := by
  cases t with
  | box a =>
    simp only [To.dec] at h
    split at h
    · rename_i h1; rw [asBox_eq h1, a.dec_enc _ _ h]; rfl
    · cases h
  | arr g t => exact asArr_eq h
  | map K V => exact asMap_eq h
  | iter rm => exact asIter_eq h
  | vmap K l =>
    simp only [To.dec] at h
    split at h
    · rename_i h1; rw [asVmap_eq h1, vmDec_enc K l _ _ h]; rfl
    · cases h
  | pool t => exact asPool_eq h
  | free =>
    simp only [To.dec] at h
    have h1 := (cond_some h).1
    cases o <;> first | rfl | cases h1
  | dead =>
    simp only [To.dec] at h
    have h1 := (cond_some h).1
    cases o <;> first | rfl | cases h1

def tmsComps : List Tm → List Type
  | [] => []
  | t :: ts => t.comps ++ tmsComps ts
def tosComps : List To → List Type
  | [] => []
  | t :: ts => t.comps ++ tosComps ts
def tmsDen (ts : List Tm) : Type := Prods (tmsComps ts)
def tosDen (ts : List To) : Type := Prods (tosComps ts)

def tmsEnc : (ts : List Tm) → tmsDen ts → List AVal
  | [], _ => []
  | t :: ts, x => t.enc (spl t.comps (tmsComps ts) x).1 :: tmsEnc ts (spl t.comps (tmsComps ts) x).2
def tosEnc : (ts : List To) → tosDen ts → List AObj
  | [], _ => []
  | t :: ts, x => t.enc (spl t.comps (tosComps ts) x).1 :: tosEnc ts (spl t.comps (tosComps ts) x).2

def tmsDec : (ts : List Tm) → List AVal → Option (tmsDen ts)
  | [], vs => bif vs.isEmpty then some () else none
  | t :: ts, vs => match vs with
    | v :: vs => both t.comps (tmsComps ts) (t.dec v) (tmsDec ts vs)
    | [] => none
def tosDec : (ts : List To) → List AObj → Option (tosDen ts)
  | [], vs => bif vs.isEmpty then some () else none
  | t :: ts, vs => match vs with
    | v :: vs => both t.comps (tosComps ts) (t.dec v) (tosDec ts vs)
    | [] => none

theorem tmsDec_enc : ∀ (ts : List Tm) (vs : List AVal) (x : tmsDen ts), tmsDec ts vs = some x → vs = tmsEnc ts x := by
  intro ts
  induction ts with
  | nil => intro vs x h; simp only [tmsDec] at h; have := (cond_some h).1; cases vs <;> first | rfl | cases this
  | cons t ts ih =>
    intro vs x h
    cases vs with
    | nil => cases h
    | cons v vs =>
      have h : both t.comps (tmsComps ts) (t.dec v) (tmsDec ts vs) = some x := h
      obtain ⟨h1, h2⟩ := both_some h
      rw [t.dec_enc v _ h1, ih vs _ h2]; rfl
theorem tosDec_enc : ∀ (ts : List To) (vs : List AObj) (x : tosDen ts), tosDec ts vs = some x → vs = tosEnc ts x := by
  intro ts
  induction ts with
  | nil => intro vs x h; simp only [tosDec] at h; have := (cond_some h).1; cases vs <;> first | rfl | cases this
  | cons t ts ih =>
    intro vs x h
    cases vs with
    | nil => cases h
    | cons v vs =>
      have h : both t.comps (tosComps ts) (t.dec v) (tosDec ts vs) = some x := h
      obtain ⟨h1, h2⟩ := both_some h
      rw [t.dec_enc v _ h1, ih vs _ h2]; rfl

/-- A state's shape: values, objects, how many are free behind them. -/
structure Fr where
  vals : List Tm
  objs : List To
  room : Nat := 0

def allFree : Nat → List AObj → Bool
  | 0, [] => true
  | n + 1, .free :: l => allFree n l
  | _, _ => false

theorem allFree_eq : ∀ (n : Nat) (l : List AObj), allFree n l = true → l = List.replicate n .free
  | 0, [], _ => rfl
  | 0, _ :: _, h => by cases h
  | n + 1, [], h => by cases h
  | n + 1, o :: l, h => by
    cases o <;> simp only [allFree] at h <;> first
      | cases h
      | rw [allFree_eq n l h]; rfl

def tosDecR : (ts : List To) → Nat → List AObj → Option (tosDen ts)
  | [], n, vs => bif allFree n vs then some () else none
  | t :: ts, n, vs => match vs with
    | v :: vs => both t.comps (tosComps ts) (t.dec v) (tosDecR ts n vs)
    | [] => none

theorem tosDecR_enc : ∀ (ts : List To) (n : Nat) (vs : List AObj) (x : tosDen ts), tosDecR ts n vs = some x → vs = tosEnc ts x ++ List.replicate n .free
  | [], n, vs, x, h => by
    simp only [tosDecR] at h
    obtain ⟨h, _⟩ := cond_some h
    rw [allFree_eq n vs h]; rfl
  | t :: ts, n, vs, x, h => by
    cases vs with
    | nil => cases h
    | cons v vs =>
      have h : both t.comps (tosComps ts) (t.dec v) (tosDecR ts n vs) = some x := h
      obtain ⟨h1, h2⟩ := both_some h
      rw [To.dec_enc t v _ h1, tosDecR_enc ts n vs _ h2]; rfl

def Fr.den (f : Fr) : Type := Prods (tmsComps f.vals ++ tosComps f.objs)
def Fr.dec (f : Fr) (vs : List AVal) (os : List AObj) : Option f.den := both (tmsComps f.vals) (tosComps f.objs) (tmsDec f.vals vs) (tosDecR f.objs f.room os)
def Fr.vs (f : Fr) (x : f.den) : List AVal := tmsEnc f.vals (spl (tmsComps f.vals) (tosComps f.objs) x).1
def Fr.os (f : Fr) (x : f.den) : List AObj := tosEnc f.objs (spl (tmsComps f.vals) (tosComps f.objs) x).2 ++ List.replicate f.room .free
def Fr.st (f : Fr) (live : List Nat) (x : f.den) : St := ⟨slotsAt live (f.vs x), f.os x⟩

theorem Fr.dec_enc {f : Fr} {vs : List AVal} {os : List AObj} {x : f.den} (h : f.dec vs os = some x) : vs = f.vs x ∧ os = f.os x := by
  obtain ⟨h1, h2⟩ := both_some h
  exact ⟨tmsDec_enc _ _ _ h1, tosDecR_enc _ _ _ _ h2⟩

/-- Objects' new names, and so many free behind them. -/
def padK (n : Nat) (l : List (Option (Nat × Nat))) : List (Option (Nat × Nat)) := l ++ List.replicate n none

/-- A value and objects as one: what a function answers. -/
def outDen (t : Tm) (os : List To) : Type := Prods (t.comps ++ tosComps os)
def outV (t : Tm) (os : List To) (x : outDen t os) : AVal := t.enc (spl t.comps (tosComps os) x).1
def outO (t : Tm) (os : List To) (x : outDen t os) : List AObj := tosEnc os (spl t.comps (tosComps os) x).2
def outDec (t : Tm) (os : List To) (v : AVal) (bs : List AObj) : Option (outDen t os) := both t.comps (tosComps os) (t.dec v) (tosDec os bs)
theorem outDec_enc {t : Tm} {os : List To} {v : AVal} {bs : List AObj} {x : outDen t os} (h : outDec t os v bs = some x) : v = outV t os x ∧ bs = outO t os x := by
  obtain ⟨h1, h2⟩ := both_some h
  exact ⟨t.dec_enc _ _ h1, tosDec_enc _ _ _ h2⟩

/-- A part told on plain data. -/
def Sub.of {R : Type} (live : List Nat) (code : Code) (f : Fr) (run : f.den → (AExit → St → Option R) → Option R) : Sub R :=
  ⟨live, code, fun vs os k => match f.dec vs os with
    | some x => run x k
    | none => none⟩

theorem Sub.of_run {R : Type} {live : List Nat} {code : Code} {f : Fr} {run : f.den → (AExit → St → Option R) → Option R} {J : St → (AExit → St → Option R) → Option R} (h : ∀ x k, J (f.st live x) k = run x k)
    {vs : List AVal} {os : List AObj} {k : AExit → St → Option R} {z : R} (hz : (Sub.of live code f run).run vs os k = some z) : J ⟨slotsAt live vs, os⟩ k = some z := by
  simp only [Sub.of] at hz
  split at hz
  · rename_i x hx
    obtain ⟨rfl, rfl⟩ := Fr.dec_enc hx
    exact (h x k).trans hz
  · cases hz

/-- One of some shapes that an answer may have. -/
def altsDen : List (Tm × List To) → Type
  | [] => Empty
  | [a] => outDen a.1 a.2
  | a :: b :: l => outDen a.1 a.2 ⊕ altsDen (b :: l)

def altsV : (l : List (Tm × List To)) → altsDen l → AVal
  | [], x => nomatch x
  | [a], x => outV a.1 a.2 x
  | a :: b :: l, x => match x with
    | .inl x => outV a.1 a.2 x
    | .inr y => altsV (b :: l) y
def altsO : (l : List (Tm × List To)) → altsDen l → List AObj
  | [], x => nomatch x
  | [a], x => outO a.1 a.2 x
  | a :: b :: l, x => match x with
    | .inl x => outO a.1 a.2 x
    | .inr y => altsO (b :: l) y
def altsDec : (l : List (Tm × List To)) → AVal → List AObj → Option (altsDen l)
  | [], _, _ => none
  | [a], v, os => outDec a.1 a.2 v os
  | a :: b :: l, v, os => match outDec a.1 a.2 v os with
    | some x => some (.inl x)
    | none => match altsDec (b :: l) v os with
      | some y => some (.inr y)
      | none => none

theorem altsDec_enc : ∀ (l : List (Tm × List To)) (v : AVal) (os : List AObj) (z : altsDen l), altsDec l v os = some z → v = altsV l z ∧ os = altsO l z
  | [], v, os, z, _ => nomatch z
  | [a], v, os, z, h => outDec_enc h
  | a :: b :: l, v, os, z, h => by
    simp only [altsDec] at h
    split at h
    · rename_i x hx; cases h; exact outDec_enc hx
    · split at h
      · rename_i y hy; cases h; exact altsDec_enc (b :: l) v os y hy
      · cases h

/-- What is done with an answer, whichever shape it has. -/
def altsK {R : Type} : (l : List (Tm × List To)) → altsDen l → (AVal → List AObj → Option R) → Option R
  | [], x, _ => nomatch x
  | [a], x, k => k (outV a.1 a.2 x) (outO a.1 a.2 x)
  | a :: b :: l, x, k => match x with
    | .inl x => k (outV a.1 a.2 x) (outO a.1 a.2 x)
    | .inr y => altsK (b :: l) y k

theorem altsK_eq {R : Type} : ∀ (l : List (Tm × List To)) (x : altsDen l) (k : AVal → List AObj → Option R), altsK l x k = k (altsV l x) (altsO l x)
  | [], x, _ => nomatch x
  | [_], _, _ => rfl
  | _ :: _ :: _, .inl _, _ => rfl
  | _ :: b :: l, .inr y, k => altsK_eq (b :: l) y k

def funOfA (fi : Fr) (alts : List (Tm × List To)) (plain : fi.den → Option (altsDen alts)) : Fun := fun _ args objs k => match fi.dec args objs with
  | some y => match plain y with
    | some z => altsK alts z k
    | none => none
  | none => none

theorem funOfA_eq (fi : Fr) (alts : List (Tm × List To)) (plain : fi.den → Option (altsDen alts)) : funOfA fi alts plain = funAs fi.dec plain (altsV alts) (altsO alts) := by
  funext R args objs k
  unfold funOfA funAs
  cases fi.dec args objs with
  | none => rfl
  | some y =>
    simp only
    cases plain y with
    | none => rfl
    | some z => exact altsK_eq _ _ _

theorem funOfA_ok {P : Program} {T : Tbl} {fns : Fns} {fuel : Nat} (hT : TblOk P T) (hfns : FnsOk P fns) (hm : P.follows .mixedOrders = true) {f : FuncId} {fn : Func} {an : AN} {room : Nat} {ks : List (Option (Nat × Nat))} {g0 : List Bool} (hf : P.funcs[f]? = some fn) (hd : defThere fn an = true)
    {fi : Fr} {alts : List (Tm × List To)} {plain : fi.den → Option (altsDen alts)}
    {subs : Subs (altsDen alts)} (hsubs : SubsOk P g0 fn.ntmps subs) (hh : (codeOf fn an).holes = (codeOf fn an).fills subs)
    (hfit : ∀ y, Nat.ble (fi.vs y).length fn.ntmps = true ∧ (fi.os y).map AObj.arr0 = g0)
    (hrun : ∀ y, runF (altsDen alts) T fns fuel subs (defOf fn an room ks g0) (fi.vs y) (fi.os y) (altsDec alts) = plain y) :
    FunOk P f (funOfA fi alts plain) := by
  rw [funOfA_eq]
  refine funOk_def hT hfns hm hf hd (room := room) (ks := ks) (fuel := fuel) hsubs hh fi.dec plain (altsDec alts) (altsV alts) (altsO alts) (fun v bs z h => altsDec_enc alts v bs z h) fun args objs y h => ?_
  obtain ⟨rfl, rfl⟩ := Fr.dec_enc h
  exact ⟨hfit y, hrun y⟩

/-- A function told in two ways, as what it is handed is. -/
def orFun (c : List AVal → List AObj → Bool) (F G : Fun) : Fun := fun R args objs k => bif c args objs then F R args objs k else G R args objs k

theorem orFun_ok {P : Program} {f : FuncId} {c : List AVal → List AObj → Bool} {F G : Fun} (hF : FunOk P f F) (hG : FunOk P f G) : FunOk P f (orFun c F G) where
  body := hF.body
  run := by
    intro R args objs k z h
    unfold orFun at h ⊢
    cases hc : c args objs with
    | true => rw [hc] at h; simp only [cond_true]; exact hF.run R args objs k z h
    | false => rw [hc] at h; simp only [cond_false]; exact hG.run R args objs k z h

def Fr.has (f : Fr) (vs : List AVal) (os : List AObj) : Bool := match f.dec vs os with
  | some _ => true
  | none => false

def fnsOf : List (FuncId × Fun) → Fns
  | [], _ => none
  | (g, F) :: l, f => bif Nat.beq f g then some F else fnsOf l f

theorem fnsOk_nil {P : Program} : FnsOk P (fnsOf []) := fun _ _ h => by cases h
theorem fnsOk_cons {P : Program} {g : FuncId} {F : Fun} {l : List (FuncId × Fun)} (h : FunOk P g F) (hl : FnsOk P (fnsOf l)) : FnsOk P (fnsOf ((g, F) :: l)) := by
  intro f F' hf
  simp only [fnsOf] at hf
  cases hb : Nat.beq f g with
  | true => rw [hb] at hf; cases hf; rw [Nat.eq_of_beq_eq_true hb]; exact h
  | false => rw [hb] at hf; exact hl f F' hf

theorem subsOk_nil {P : Program} {R : Type} {g0 : List Bool} {N : Nat} : SubsOk P g0 N (subsOf ([] : List (Sub R))) := fun _ _ h => by cases h
theorem subsOk_cons {P : Program} {R : Type} {g0 : List Bool} {N : Nat} {s : Sub R} {l : List (Sub R)} (h : SubOk P g0 N s) (hl : SubsOk P g0 N (subsOf l)) : SubsOk P g0 N (subsOf (s :: l)) := by
  intro i s' hs
  cases i with
  | zero => cases hs; exact h
  | succ i => exact hl i s' hs

theorem tblOk_nil {P : Program} : TblOk P (tblOf []) := fun _ _ h => by cases h
theorem tblOk_cons {P : Program} {t : TypeId} {d : TD} {l : List (TypeId × TD)} (h : TdOk P t d) (hl : TblOk P (tblOf l)) : TblOk P (tblOf ((t, d) :: l)) := by
  intro t' d' hf
  simp only [tblOf] at hf
  cases hb : Nat.beq t' t with
  | true => rw [hb] at hf; cases hf; rw [Nat.eq_of_beq_eq_true hb]; exact h
  | false => rw [hb] at hf; exact hl t' d' hf
end Go.Am
