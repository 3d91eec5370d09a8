/- The abstract machine, twenty-eighth part: the table of types, checked. -/
import Derived.Test.YtiecnmmffplgcaaAmZA
import Derived.KernelRfl
namespace Go.Am

def tblOf : List (TypeId × TD) → Tbl
  | [], _ => none
  | (t', d) :: l, t => bif Nat.beq t t' then some d else tblOf l t

theorem tblOf_ok {P : Program} : ∀ (l : List (TypeId × TD)), (∀ p ∈ l, TdOk P p.1 p.2) → TblOk P (tblOf l) := by
  intro l
  induction l with
  | nil => intro _ t d h; cases h
  | cons p l ih =>
    intro hp t d h
    obtain ⟨t', d'⟩ := p
    simp only [tblOf] at h
    cases hb : Nat.beq t t' with
    | true => rw [hb] at h; cases h; rw [Nat.eq_of_beq_eq_true hb]; exact hp (t', d) (by simp)
    | false => rw [hb] at h; exact ih (fun p hm => hp p (by simp [hm])) t d h

/-- The cells of a plain type's data. -/
def Ty.cells : (t : Ty) → t.den → Option (List Value)
  | .int k, n => some [.int k n]
  | .bool, b => some [.bool b]
  | .str, s => some [.string s]
  | .unit, _ => some []
  | .one a, x => Ty.cells a x
  | .pair a b, x => match Ty.cells a x.1, Ty.cells b x.2 with | some c, some d => some (c ++ d) | _, _ => none
  | .arr n a, xs => bif Nat.beq xs.length n then cellsAll (Ty.cells a) xs else none
  | .slice _, xs => bif List.isEmpty xs then some [.slice none 0 0] else none
where
  cellsAll {α : Type} (f : α → Option (List Value)) : List α → Option (List Value)
    | [] => some []
    | x :: xs => match f x, cellsAll f xs with | some c, some d => some (c ++ d) | _, _ => none

/-- The cells of a value that holds no reference. -/
def zeroA : AVal → Option (List Value)
  | .dat _ t d => Ty.cells t d
  | .pair a b => match zeroA a, zeroA b with | some c, some d => some (c ++ d) | _, _ => none
  | .one a => zeroA a
  | .nilp => some [.pointer none]
  | .nils => some [.slice none 0 0]
  | .nilm => some [.map none]
  | .nilf => some [.nilFunc]
  | .nili => some [.nilIface]
  | _ => none

theorem cellsAll_all2 {α : Type} {f : α → Option (List Value)} {Q : α → List Value → Prop} : ∀ (xs : List α) (cs : List Value), (∀ x c, f x = some c → Q x c) → Ty.cells.cellsAll f xs = some cs → ∃ css, cs = css.flatten ∧ All2 Q xs css := by
  intro xs
  induction xs with
  | nil => intro cs _ h; cases h; exact ⟨[], rfl, .nil⟩
  | cons x xs ih =>
    intro cs hq h
    simp only [Ty.cells.cellsAll] at h
    split at h
    · rename_i c d h1 h2
      cases h
      obtain ⟨css, rfl, h3⟩ := ih d hq h2
      exact ⟨c :: css, rfl, .cons (hq _ _ h1) h3⟩
    · cases h

theorem cells_rel {h : Heap} {S : Nat → Prop} : ∀ (t : Ty) (d : t.den) (cs : List Value), t.cells d = some cs → t.Rel h S d cs := by
  intro t
  induction t with
  | int k => intro d cs e; cases e; rfl
  | bool => intro d cs e; cases e; rfl
  | str => intro d cs e; cases e; rfl
  | unit => intro d cs e; cases e; rfl
  | one a ih => exact fun d cs e => ih d cs e
  | pair a b iha ihb =>
    intro d cs e
    simp only [Ty.cells] at e
    split at e
    · rename_i c1 c2 h1 h2; cases e; exact ⟨c1, c2, rfl, iha _ _ h1, ihb _ _ h2⟩
    · cases e
  | arr n a ih =>
    intro d cs e
    simp only [Ty.cells] at e
    obtain ⟨h1, e⟩ := cond_some e
    obtain ⟨css, h2, h3⟩ := cellsAll_all2 d cs ih e
    exact ⟨Nat.eq_of_beq_eq_true h1, css, h2, h3⟩
  | slice a _ =>
    intro d cs e
    simp only [Ty.cells] at e
    obtain ⟨h1, e⟩ := cond_some e
    cases e
    obtain rfl : d = [] := List.isEmpty_iff.1 h1
    exact ⟨none, 0, 0, rfl, rfl, Nat.le_refl _, fun _ => rfl, fun h => absurd h (by simp)⟩

theorem zeroA_C {x : Ctx} : ∀ (v : AVal) (cs : List Value), zeroA v = some cs → v.C x cs := by
  intro v
  induction v with
  | dat p t d => exact fun cs e => cells_rel t d cs e
  | pair a b iha ihb =>
    intro cs e
    simp only [zeroA] at e
    split at e
    · rename_i c1 c2 h1 h2; cases e; exact ⟨c1, c2, rfl, iha _ h1, ihb _ h2⟩
    · cases e
  | one a ih => exact fun cs e => ih cs e
  | nilp => intro cs e; cases e; rfl
  | nils => intro cs e; cases e; exact ⟨none, rfl⟩
  | nilm => intro cs e; cases e; rfl
  | nilf => intro cs e; cases e; rfl
  | nili => intro cs e; cases e; rfl
  | _ => intro cs e; cases e

theorem tdOk_of {P : Program} {t : TypeId} {d : TD} {i : TypeInfo} {cs : List Value} (h1 : P.info? t = some i) (h2 : (Nat.beq i.size d.size && Nat.beq i.bytes d.bytes && (d.zero.agg || Nat.beq cs.length 1)) = true)
    (h4 : zeroA d.zero = some cs) (h5 : i.zero = some (valueOf d.zero.agg cs)) (h6 : UndOk P t d.und) (h7 : d.cmp = true → P.stoodInHeld t = false ∧ P.eqGuardType P.depth t = false) : TdOk P t d := by
  rw [Bool.and_eq_true, Bool.and_eq_true] at h2
  obtain ⟨⟨h2, h3⟩, h8⟩ := h2
  refine ⟨⟨i, h1, Nat.eq_of_beq_eq_true h2, Nat.eq_of_beq_eq_true h3, _, h5, fun x => V_valueOf (zeroA_C _ _ h4) fun ha => ?_⟩, h6, h7⟩
  rw [ha, Bool.false_or] at h8
  exact Nat.eq_of_beq_eq_true h8

def infoAt (P : Program) (t : TypeId) : TypeInfo := match P.info? t with | some i => i | none => default
def cellsOfTD (d : TD) : List Value := match zeroA d.zero with | some cs => cs | none => []

theorem undStruct {P : Program} {t : TypeId} {fs : List (Nat × TypeId)} (fields : Array Field) (h1 : P.underlying t = some (.struct fields)) (h2 : fields.toList.map (fun f => (f.offset, f.type)) = fs) (h3 : fields.toList.all (fun f => f.name != "_") = true) : UndOk P t (.struct fs) :=
  ⟨fields, h1, h2, fun f hf => by simpa using List.all_eq_true.1 h3 f hf⟩
def fieldsAt (P : Program) (t : TypeId) : Array Field := match P.underlying t with | some (.struct fs) => fs | _ => #[]
def descAt (P : Program) (t : TypeId) : TypeDesc := match P.underlying t with | some d => d | none => default

end Go.Am
