/- The abstract machine: A B C D E F. -/
import Derived.Calls
import Derived.Laws.CopyRow
import Derived.Laws.Cells
import Derived.Laws.Entries
import Derived.ChangeKeysEq
/- The abstract machine, first part: the types of its data, how data lie in memory. -/
namespace Go.Am

inductive Ty where
  | int (k : IntKind) | bool | str | unit
  | one (t : Ty) | pair (a b : Ty)
  | arr (n : Nat) (t : Ty)
  | slice (t : Ty)
  /-- a pointer to an element of a pool -/
  | pref (k : Nat)
  deriving DecidableEq

@[reducible] def Ty.den : Ty → Type
  | .int _ => Int | .bool => Bool | .str => ByteArray | .unit => Unit
  | .one t => t.den | .pair a b => a.den × b.den
  | .arr _ t => List t.den | .slice t => List t.den
  | .pref _ => Option Nat

def Ty.size : Ty → Nat
  | .int _ | .bool | .str | .slice _ | .pref _ => 1
  | .unit => 0 | .one t => t.size | .pair a b => a.size + b.size | .arr n t => n * t.size

def Ty.agg : Ty → Bool
  | .unit | .one _ | .pair _ _ | .arr _ _ => true
  | _ => false

/-- Two lists, place by place. -/
def All2 {α β : Type} (R : α → β → Prop) (xs : List α) (ys : List β) : Prop :=
  xs.length = ys.length ∧ ∀ (i : Nat) x y, xs[i]? = some x → ys[i]? = some y → R x y

/-- What a memory is for the machine: its blocks. -/
abbrev Heap := Nat → Option Obj

/-- From a place on, a block holds these values. -/
def Holds (h : Heap) (b o : Nat) (cs : List Value) : Prop :=
  ∃ c e fr, h b = some (.cells c e fr) ∧ ∀ (j : Nat) v, cs[j]? = some v → c[o + j]? = some v

/-- What data may speak of: the blocks that no one writes; where the pools' elements lie. -/
structure Fz where
  on : Nat → Prop
  at_ : Nat → Nat → Option Nat
instance : CoeFun Fz (fun _ => Nat → Prop) := ⟨Fz.on⟩

/-- Data and the values that they lie in. S: the blocks that no one writes. -/
def Ty.Rel (h : Heap) (S : Fz) : (t : Ty) → t.den → List Value → Prop
  | .int k, n, cs => cs = [.int k n]
  | .bool, b, cs => cs = [.bool b]
  | .str, s, cs => cs = [.string s]
  | .unit, _, cs => cs = []
  | .one t, x, cs => Ty.Rel h S t x cs
  | .pair a b, x, cs => ∃ c1 c2, cs = c1 ++ c2 ∧ Ty.Rel h S a x.1 c1 ∧ Ty.Rel h S b x.2 c2
  | .arr n t, xs, cs => xs.length = n ∧ ∃ css, cs = css.flatten ∧ All2 (Ty.Rel h S t) xs css
  | .slice t, xs, cs => ∃ base len cap, cs = [.slice base len cap] ∧ len = xs.length ∧ len ≤ cap ∧ (base = none → cap = 0) ∧
      (0 < len → ∃ b o, base = some ⟨b, o, none⟩ ∧ S b ∧ ∃ css, Holds h b o css.flatten ∧ All2 (Ty.Rel h S t) xs css)
  | .pref k, p, cs => match p with
    | none => cs = [.pointer none]
    | some j => ∃ b, S.at_ k j = some b ∧ cs = [.pointer (some ⟨b, 0, none⟩)]

/-- What is said of data stays said. -/
structure Same (h : Heap) (S : Fz) (h' : Heap) (S' : Fz) : Prop where
  on : ∀ b, S b → S' b ∧ h' b = h b
  at_ : ∀ k j b, S.at_ k j = some b → S'.at_ k j = some b

theorem All2.mono {α β : Type} {R R' : α → β → Prop} {xs : List α} {ys : List β} (h : All2 R xs ys) (hr : ∀ x y, R x y → R' x y) : All2 R' xs ys :=
  ⟨h.1, fun i x y hx hy => hr _ _ (h.2 i x y hx hy)⟩

theorem All2.mapL {α β γ : Type} {R : α → β → Prop} {R' : γ → β → Prop} {f : α → γ} {xs : List α} {ys : List β} (h : All2 R xs ys) (hr : ∀ x y, R x y → R' (f x) y) : All2 R' (xs.map f) ys :=
  ⟨by rw [List.length_map]; exact h.1, fun i x y hx hy => by
    rw [List.getElem?_map] at hx
    cases hz : xs[i]? with
    | none => rw [hz] at hx; cases hx
    | some z => rw [hz] at hx; cases hx; exact hr _ _ (h.2 i z y hz hy)⟩

theorem All2.memL {α β : Type} {R R' : α → β → Prop} {xs : List α} {ys : List β} (h : All2 R xs ys) (hr : ∀ x y, x ∈ xs → R x y → R' x y) : All2 R' xs ys :=
  ⟨h.1, fun i x y hx hy => hr _ _ (List.mem_of_getElem? hx) (h.2 i x y hx hy)⟩

theorem All2.nil {α β : Type} {R : α → β → Prop} : All2 R [] [] := ⟨rfl, fun i x y hx => by simp at hx⟩

theorem All2.cons {α β : Type} {R : α → β → Prop} {x : α} {y : β} {xs : List α} {ys : List β} (h : R x y) (hs : All2 R xs ys) : All2 R (x :: xs) (y :: ys) := by
  refine ⟨by simp [hs.1], fun i u v hu hv => ?_⟩
  cases i with
  | zero => simp at hu hv; subst hu; subst hv; exact h
  | succ i => simp at hu hv; exact hs.2 i u v hu hv

theorem All2.cons_inv {α β : Type} {R : α → β → Prop} {x : α} {xs : List α} {ys : List β} (h : All2 R (x :: xs) ys) : ∃ y zs, ys = y :: zs ∧ R x y ∧ All2 R xs zs := by
  cases ys with
  | nil => simp [All2] at h
  | cons y zs => exact ⟨y, zs, rfl, h.2 0 x y rfl rfl, by simpa [All2] using h.1, fun i u v hu hv => h.2 (i + 1) u v (by simpa using hu) (by simpa using hv)⟩

theorem All2.nil_inv {α β : Type} {R : α → β → Prop} {ys : List β} (h : All2 R [] ys) : ys = [] := by
  cases ys with
  | nil => rfl
  | cons y zs => simp [All2] at h

theorem All2.append {α β : Type} {R : α → β → Prop} {xs xs' : List α} {ys ys' : List β} (h : All2 R xs ys) (h' : All2 R xs' ys') : All2 R (xs ++ xs') (ys ++ ys') := by
  induction xs generalizing ys with
  | nil => rw [h.nil_inv]; exact h'
  | cons x xs ih => obtain ⟨y, zs, rfl, h1, h2⟩ := h.cons_inv; exact .cons h1 (ih h2)

theorem Holds.congr {h h' : Heap} {b o : Nat} {cs : List Value} (hb : h' b = h b) (H : Holds h b o cs) : Holds h' b o cs := by
  unfold Holds at *; rw [hb]; exact H

/-- Memory may change elsewhere; more blocks may be such as no one writes. -/
theorem Ty.Rel.congr {h h' : Heap} {S S' : Fz} (hs : Same h S h' S') :
    ∀ (t : Ty) (x : t.den) (cs : List Value), Ty.Rel h S t x cs → Ty.Rel h' S' t x cs := by
  intro t
  induction t with
  | int k => exact fun _ _ h => h
  | bool => exact fun _ _ h => h
  | str => exact fun _ _ h => h
  | unit => exact fun _ _ h => h
  | one t ih => exact fun x cs h => ih x cs h
  | pair a b iha ihb => rintro x cs ⟨c1, c2, e, h1, h2⟩; exact ⟨c1, c2, e, iha _ _ h1, ihb _ _ h2⟩
  | arr n t ih => rintro xs cs ⟨hn, css, e, h1⟩; exact ⟨hn, css, e, h1.mono fun x y hxy => ih x y hxy⟩
  | slice t ih =>
    rintro xs cs ⟨base, len, cap, e, hl, hc, hnil, hb⟩
    refine ⟨base, len, cap, e, hl, hc, hnil, fun hp => ?_⟩
    obtain ⟨b, o, h1, h2, css, H, A⟩ := hb hp
    exact ⟨b, o, h1, (hs.on _ h2).1, css, H.congr (hs.on _ h2).2, A.mono fun x y hxy => ih x y hxy⟩
  | pref k =>
    intro p cs h
    cases p with
    | none => exact h
    | some j => obtain ⟨b, h1, h2⟩ := h; exact ⟨b, hs.at_ _ _ _ h1, h2⟩

theorem flatten_length {α : Type} {css : List (List α)} {n : Nat} (h : ∀ c ∈ css, c.length = n) : css.flatten.length = css.length * n := by
  induction css with
  | nil => simp
  | cons c css ih =>
    rw [List.flatten_cons, List.length_append, ih (fun d hd => h d (by simp [hd])), h c (by simp), List.length_cons, Nat.succ_mul]; omega

/-- Data take as many values as their type says. -/
theorem Ty.Rel.length {h : Heap} {S : Fz} : ∀ (t : Ty) (x : t.den) (cs : List Value), Ty.Rel h S t x cs → cs.length = t.size := by
  intro t
  induction t with
  | int k => rintro _ _ rfl; rfl
  | bool => rintro _ _ rfl; rfl
  | str => rintro _ _ rfl; rfl
  | unit => rintro _ _ rfl; rfl
  | one t ih => exact fun x cs h => ih x cs h
  | pair a b iha ihb => rintro x cs ⟨c1, c2, rfl, h1, h2⟩; simp [Ty.size, iha _ _ h1, ihb _ _ h2]
  | arr n t ih =>
    rintro xs cs ⟨hn, css, rfl, h1⟩
    rw [flatten_length (n := t.size) (fun c hc => ?_), ← h1.1, hn, Ty.size]
    obtain ⟨i, hi, rfl⟩ := List.getElem_of_mem hc
    exact ih (xs[i]'(by rw [h1.1]; exact hi)) _ (h1.2 i _ _ (List.getElem?_eq_getElem _) (List.getElem?_eq_getElem _))
  | slice t ih => rintro xs cs ⟨base, len, cap, rfl, _⟩; rfl
  | pref k =>
    intro p cs h
    cases p with
    | none => rw [show cs = _ from h]; rfl
    | some j => obtain ⟨b, _, rfl⟩ := h; rfl

theorem All2.lengths {h : Heap} {S : Fz} {t : Ty} {xs : List t.den} {css : List (List Value)} (H : All2 (Ty.Rel h S t) xs css) : ∀ c ∈ css, c.length = t.size := by
  intro c hc
  obtain ⟨i, hi, rfl⟩ := List.getElem_of_mem hc
  exact Ty.Rel.length t (xs[i]'(by rw [H.1]; exact hi)) _ (H.2 i _ _ (List.getElem?_eq_getElem _) (List.getElem?_eq_getElem _))
end Go.Am

/- The abstract machine, second part: its values, its objects, and how they lie in memory. -/
namespace Go.Am

inductive Step where
  | fst | snd | one | idx (i : Nat)

abbrev Path := List Step

/-- A value: data; a struct of which a part is no data; references to objects (r: which; g: since how many appends). -/
inductive AVal where
  | dat (own : Bool) (t : Ty) (x : t.den)
  | pair (a b : AVal) | one (a : AVal)
  | ptr (r g : Nat) (p : Path) | nilp
  | ref (own : Bool) (t : Ty) (x : t.den)
  | slc (r g : Nat) | sub (r g lo len : Nat) (ex : Bool) | nils
  | map (r : Nat) | nilm
  | fn (f : FuncId) (caps : AVal) | nilf
  | iface (t : TypeId) (v : AVal) | nili
  | tup (vs : AVal) | nil | cons (a b : AVal)
  | junk

/-- An object that the call may write: a variable; what a slice's elements lie in; a map. -/
inductive AObj where
  | box (v : AVal)
  | arr (g : Nat) (t : Ty) (xs : List t.den)
  | map (K V : Ty) (m : List (K.den × V.den)) (bs : List Nat) (clk : Nat)
  | iter (v : AVal) (since : Nat) (seen : List Nat)
  /-- a map whose values are references -/
  | vmap (K : Ty) (m : List (K.den × AVal))
  /-- a pool: variables in any number, each in a block of its own; they have names of their own (virt) -/
  | pool (t : Ty) (xs : List t.den)
  | dead | free

def AObj.live : AObj → Bool
  | .dead | .free => false
  | _ => true

/-- A value's shape: how many cells, and how they are named. -/
inductive Sh where
  | leaf | unit | one (s : Sh) | pair (a b : Sh) | arr (s : Sh) (n : Nat)
  deriving DecidableEq

def Ty.sh : Ty → Sh
  | .int _ | .bool | .str | .slice _ | .pref _ => .leaf
  | .unit => .unit | .one t => .one t.sh | .pair a b => .pair a.sh b.sh | .arr n t => .arr t.sh n

def Sh.size : Sh → Nat
  | .leaf => 1 | .unit => 0 | .one s => s.size | .pair a b => a.size + b.size | .arr s n => n * s.size

def AVal.sh : AVal → Sh
  | .dat _ t _ => t.sh
  | .pair a b => .pair a.sh b.sh
  | .one a => .one a.sh
  | .nil => .unit
  | .cons _ b => .pair .leaf b.sh
  | _ => .leaf

def AVal.agg : AVal → Bool
  | .dat _ t _ => t.agg
  | .pair _ _ | .one _ => true
  | _ => false

theorem Ty.sh_size : ∀ t : Ty, t.sh.size = t.size := by
  intro t; induction t <;> simp_all [Ty.sh, Sh.size, Ty.size]

/-- Where a path leads, and how many cells behind the begin. -/
def Sh.at : Sh → Path → Option (Sh × Nat)
  | s, [] => some (s, 0)
  | .pair a _, .fst :: p => a.at p
  | .pair a b, .snd :: p => match b.at p with | some (s, o) => some (s, a.size + o) | none => none
  | .one s, .one :: p => s.at p
  | .arr s _, .idx i :: p => match s.at p with | some (s', o) => some (s', i * s.size + o) | none => none
  | _, _ => none

/-- Is there no slice inside? -/
def Ty.plain : Ty → Bool
  | .slice _ | .pref _ => false
  | .one t | .arr _ t => t.plain
  | .pair a b => a.plain && b.plain
  | _ => true

/-- Data in whose type there is no slice are anyone's. -/
def mkPair : AVal → AVal → AVal
  | .dat p a x, .dat q b y => bif p == q then .dat p (.pair a b) (x, y) else bif a.plain then .dat q (.pair a b) (x, y) else bif b.plain then .dat p (.pair a b) (x, y) else .pair (.dat p a x) (.dat q b y)
  | a, b => .pair a b

def mkOne : AVal → AVal
  | .dat p a x => .dat p (.one a) x
  | a => .one a

section
variable {R : Type}

def AVal.getK : AVal → Path → (AVal → Option R) → Option R
  | v, [], k => k v
  | .dat q (.pair a _) x, .fst :: p, k => AVal.getK (.dat q a x.1) p k
  | .dat q (.pair _ b) x, .snd :: p, k => AVal.getK (.dat q b x.2) p k
  | .dat q (.one t) x, .one :: p, k => AVal.getK (.dat q t x) p k
  | .dat q (.arr _ t) xs, .idx i :: p, k => match xs[i]? with | some x => AVal.getK (.dat q t x) p k | none => none
  | .pair a _, .fst :: p, k => AVal.getK a p k
  | .pair _ b, .snd :: p, k => AVal.getK b p k
  | .one a, .one :: p, k => AVal.getK a p k
  | _, _, _ => none

def AVal.setK : AVal → Path → AVal → (AVal → Option R) → Option R
  | v, [], u, k => if u.sh = v.sh then k u else none
  | .dat q (.pair a b) x, .fst :: p, u, k => AVal.setK (.dat q a x.1) p u fun y => k (mkPair y (.dat q b x.2))
  | .dat q (.pair a b) x, .snd :: p, u, k => AVal.setK (.dat q b x.2) p u fun y => k (mkPair (.dat q a x.1) y)
  | .dat q (.one t) x, .one :: p, u, k => AVal.setK (.dat q t x) p u fun y => k (mkOne y)
  | .dat q (.arr n t) xs, .idx i :: p, u, k => match xs[i]? with
    | some x => AVal.setK (.dat q t x) p u fun
      | .dat q' t' y => bif q' == q || t.plain then (if h : t' = t then k (.dat q (.arr n t) (xs.set i (h ▸ y))) else none) else none
      | _ => none
    | none => none
  | .pair a b, .fst :: p, u, k => AVal.setK a p u fun y => k (mkPair y b)
  | .pair a b, .snd :: p, u, k => AVal.setK b p u fun y => k (mkPair a y)
  | .one a, .one :: p, u, k => AVal.setK a p u fun y => k (mkOne y)
  | _, _, _, _ => none
end

def AVal.isTup : AVal → Bool
  | .tup _ => true
  | _ => false

/-- A function with what it has caught; or (of a tuple) with its first arguments. -/
def fnVal (f : FuncId) : Bool → List Value → Value
  | false, vs => .func (.func f) #[] vs.toArray
  | true, [.tuple us] => .func (.func f) us #[]
  | true, _ => .func (.func f) #[] #[]
theorem fnVal_is (f : FuncId) (b : Bool) (vs : List Value) : ∃ u v, fnVal f b vs = .func (.func f) u v := by
  unfold fnVal
  split <;> exact ⟨_, _, rfl⟩

/-- What the values of a state speak of: the memory, the blocks that no one writes, where each object lies. -/
structure Ctx where
  h : Heap
  S : Bool → Nat → Prop
  μ : Nat → Option Addr
  σ : List AObj
  /-- where the pools' elements lie -/
  at_ : Nat → Nat → Option Nat
  /-- which objects are pools -/
  pl : Nat → Bool

abbrev Ctx.F (x : Ctx) (p : Bool) : Fz := ⟨x.S p, x.at_⟩

/-- What is said of data stays said, from one state to another. -/
structure HS (x x' : Ctx) : Prop where
  on : ∀ p b, x.S p b → x'.S p b ∧ x'.h b = x.h b
  at_ : ∀ k j b, x.at_ k j = some b → x'.at_ k j = some b
instance {x x' : Ctx} : CoeFun (HS x x') (fun _ => ∀ p b, x.S p b → x'.S p b ∧ x'.h b = x.h b) := ⟨HS.on⟩
theorem HS.t {x x' : Ctx} (H : HS x x') (p : Bool) : Same x.h (x.F p) x'.h (x'.F p) := ⟨H.on p, H.at_⟩

def AObj.isPool : AObj → Bool
  | .pool _ _ => true
  | _ => false

/-- An element of a pool, as a variable. -/
def elemAt : AObj → Nat → AObj
  | .pool t xs, j => match xs[j]? with | some d => .box (.dat true t d) | none => .free
  | _, _ => .free

/-- The name of a pool's element. -/
def virt (p j : Nat) : Nat := 64 * (j + 1) + p

def objAt (σ : List AObj) (r : Nat) : AObj := if r < 64 then σ.getD r .free else elemAt (σ.getD (r % 64) .free) (r / 64 - 1)

def Ctx.obj (x : Ctx) (r : Nat) : AObj := objAt x.σ r

theorem objAt_low {σ : List AObj} {r : Nat} (h : r < 64) : objAt σ r = σ.getD r .free := if_pos h
theorem virt_div {p j : Nat} (h : p < 64) : virt p j / 64 - 1 = j := by unfold virt; omega
theorem virt_mod {p j : Nat} (h : p < 64) : virt p j % 64 = p := by unfold virt; omega
theorem virt_ge (p j : Nat) : 64 ≤ virt p j := by unfold virt; omega
theorem virt_of {r : Nat} (h : 64 ≤ r) : r = virt (r % 64) (r / 64 - 1) := by unfold virt; omega
theorem objAt_virt {σ : List AObj} {p j : Nat} (h : p < 64) : objAt σ (virt p j) = elemAt (σ.getD p .free) j := by
  unfold objAt
  rw [if_neg (Nat.not_lt.2 (virt_ge p j)), virt_div h, virt_mod h]
theorem elemAt_not {o : AObj} (h : o.isPool = false) (j : Nat) : elemAt o j = .free := by cases o <;> first | rfl | cases h

def ptrTo (a : Addr) (o : Nat) : Value := .pointer (some ⟨a.block, a.off + o, none⟩)

def PtrRel (x : Ctx) (r g : Nat) (p : Path) (c : Value) : Prop :=
  match x.obj r with
  | .free => False
  | .box v => ∃ a s o, x.μ r = some a ∧ v.sh.at p = some (s, o) ∧ c = ptrTo a o
  | .arr g' t _ => g ≤ g' ∧ (g = g' → ∃ a s o, x.μ r = some a ∧ (Sh.arr t.sh 0).at p = some (s, o) ∧ c = ptrTo a o)
  | _ => True

/-- A slice's header over a row of cells: what lies there up to its capacity is its own. -/
def Roomy (h : Heap) (a : Addr) (cells : Nat) : Prop := ∀ c e fr, h a.block = some (.cells c e fr) → a.off + cells ≤ c.size

def SlcRel (x : Ctx) (r g : Nat) (c : Value) : Prop :=
  match x.obj r with
  | .free => False
  | .arr g' t xs => g ≤ g' ∧ (g = g' → match x.μ r with
    | none => ∃ b, c = .slice b 0 0
    | some a => ∃ cap, c = .slice (some a) xs.length cap ∧ xs.length ≤ cap ∧ Roomy x.h a (cap * t.size))
  | _ => True

theorem Roomy.mono {h : Heap} {a : Addr} {n m : Nat} (H : Roomy h a m) (l : n ≤ m) : Roomy h a n := fun c e fr hc => by have := H c e fr hc; omega

/-- A part of a slice; ex: its capacity is its length, else it reaches as far as the slice does. -/
def SubRel (x : Ctx) (r g lo len : Nat) (ex : Bool) (c : Value) : Prop :=
  match x.obj r with
  | .free => False
  | .arr g' t xs => g ≤ g' ∧ (g = g' → lo + len ≤ xs.length ∧ ∃ base cap, c = .slice base len cap ∧ len ≤ cap ∧ (ex = true → cap = len) ∧ (ex = false → xs.length - lo ≤ cap) ∧ (base = none → cap = 0) ∧ ∀ b, base = some b → 0 < cap → ∃ a, x.μ r = some a ∧ b = a.add (lo * t.size) ∧ Roomy x.h a ((lo + cap) * t.size))
  | _ => True

def MapRel (x : Ctx) (r : Nat) (c : Value) : Prop :=
  match x.obj r with
  | .free => False
  | .map _ _ _ _ _ => ∃ a, x.μ r = some a ∧ c = .map (some a.block)
  | .vmap _ _ => ∃ a, x.μ r = some a ∧ c = .map (some a.block)
  | .iter _ _ _ => ∃ a, x.μ r = some a ∧ c = .pointer (some ⟨a.block, 0, none⟩)
  | _ => True

/-- A value and the values of the model that it stands for, cell by cell (of 'cons', 'nil': value by value). -/
def AVal.C (x : Ctx) : AVal → List Value → Prop
  | .dat p t d, cs => t.Rel x.h (x.F p) d cs
  | .pair a b, cs => ∃ c1 c2, cs = c1 ++ c2 ∧ a.C x c1 ∧ b.C x c2
  | .one a, cs => a.C x cs
  | .ptr r g p, cs => ∃ c, cs = [c] ∧ c.oneCell' = true ∧ PtrRel x r g p c
  | .nilp, cs => cs = [.pointer none]
  | .ref p t d, cs => ∃ b o ds, cs = [.pointer (some ⟨b, o, none⟩)] ∧ x.S p b ∧ Holds x.h b o ds ∧ t.Rel x.h (x.F p) d ds
  | .slc r g, cs => ∃ c, cs = [c] ∧ c.oneCell' = true ∧ SlcRel x r g c
  | .sub r g lo len ex, cs => ∃ c, cs = [c] ∧ c.oneCell' = true ∧ SubRel x r g lo len ex c
  | .nils, cs => ∃ b, cs = [.slice b 0 0]
  | .map r, cs => ∃ c, cs = [c] ∧ c.oneCell' = true ∧ MapRel x r c
  | .nilm, cs => cs = [.map none]
  | .fn f caps, cs => ∃ vs, cs = [fnVal f caps.isTup vs] ∧ caps.C x vs
  | .nilf, cs => cs = [.nilFunc]
  | .iface t v, cs => ∃ u, cs = [.iface t u] ∧ if v.agg then ∃ c, u = .agg c ∧ v.C x c.toList else v.C x [u]
  | .nili, cs => cs = [.nilIface]
  | .tup vs, cs => ∃ us, cs = [.tuple us.toArray] ∧ vs.C x us
  | .nil, cs => cs = []
  | .cons a b, cs => ∃ u us, cs = u :: us ∧ (if a.agg then ∃ c, u = .agg c ∧ a.C x c.toList else a.C x [u]) ∧ b.C x us
  | .junk, cs => ∃ c, cs = [c] ∧ c.oneCell' = true

/-- A value as a slot holds it. -/
def AVal.V (x : Ctx) (v : AVal) (u : Value) : Prop := if v.agg then ∃ c, u = .agg c ∧ v.C x c.toList else v.C x [u]

/-- What stays said of object r, from one state to another. -/
structure Keeps (x x' : Ctx) (r : Nat) : Prop where
  ptr : ∀ g p c, PtrRel x r g p c → PtrRel x' r g p c
  slc : ∀ g c, SlcRel x r g c → SlcRel x' r g c
  sub : ∀ g lo len ex c, SubRel x r g lo len ex c → SubRel x' r g lo len ex c
  map : ∀ c, MapRel x r c → MapRel x' r c

theorem AVal.C.mono {x x' : Ctx} (hs : HS x x') (hk : ∀ r, Keeps x x' r) :
    ∀ (v : AVal) (cs : List Value), v.C x cs → v.C x' cs := by
  intro v
  induction v with
  | dat p t d => exact fun cs h => h.congr (hs.t p)
  | pair a b iha ihb => rintro cs ⟨c1, c2, e, h1, h2⟩; exact ⟨c1, c2, e, iha _ h1, ihb _ h2⟩
  | one a ih => exact fun cs h => ih cs h
  | ptr r g p => rintro cs ⟨c, e, h1, h⟩; exact ⟨c, e, h1, (hk r).ptr _ _ _ h⟩
  | nilp => exact fun _ h => h
  | ref p t d => rintro cs ⟨b, o, ds, e, h1, h2, h3⟩; exact ⟨b, o, ds, e, (hs _ _ h1).1, h2.congr (hs _ _ h1).2, h3.congr (hs.t p)⟩
  | slc r g => rintro cs ⟨c, e, h1, h⟩; exact ⟨c, e, h1, (hk r).slc _ _ h⟩
  | sub r g lo len ex => rintro cs ⟨c, e, h1, h⟩; exact ⟨c, e, h1, (hk r).sub _ _ _ _ _ h⟩
  | nils => exact fun _ h => h
  | map r => rintro cs ⟨c, e, h1, h⟩; exact ⟨c, e, h1, (hk r).map _ h⟩
  | nilm => exact fun _ h => h
  | fn f caps ih => rintro cs ⟨vs, e, h⟩; exact ⟨vs, e, ih _ h⟩
  | nilf => exact fun _ h => h
  | iface t v ih =>
    rintro cs ⟨u, e, h⟩; refine ⟨u, e, ?_⟩
    by_cases hv : v.agg = true
    · rw [if_pos hv] at h ⊢; obtain ⟨c, e, h⟩ := h; exact ⟨c, e, ih _ h⟩
    · rw [if_neg hv] at h ⊢; exact ih _ h
  | nili => exact fun _ h => h
  | tup vs ih => rintro cs ⟨us, e, h⟩; exact ⟨us, e, ih _ h⟩
  | nil => exact fun _ h => h
  | cons a b iha ihb =>
    rintro cs ⟨u, us, e, h, h'⟩; refine ⟨u, us, e, ?_, ihb _ h'⟩
    by_cases hv : a.agg = true
    · rw [if_pos hv] at h ⊢; obtain ⟨c, e, h⟩ := h; exact ⟨c, e, iha _ h⟩
    · rw [if_neg hv] at h ⊢; exact iha _ h
  | junk => exact fun _ h => h

theorem AVal.V.mono {x x' : Ctx} (hs : HS x x') (hk : ∀ r, Keeps x x' r) {v : AVal} {u : Value} (h : v.V x u) : v.V x' u := by
  unfold AVal.V at *
  by_cases hv : v.agg = true
  · rw [if_pos hv] at h ⊢; obtain ⟨c, e, h⟩ := h; exact ⟨c, e, AVal.C.mono hs hk _ _ h⟩
  · rw [if_neg hv] at h ⊢; exact AVal.C.mono hs hk _ _ h

theorem AVal.C.length {x : Ctx} : ∀ (v : AVal) (cs : List Value), v.C x cs → cs.length = v.sh.size := by
  intro v
  induction v with
  | dat p t d => intro cs h; rw [Ty.Rel.length _ _ _ h]; exact (Ty.sh_size t).symm
  | pair a b iha ihb => rintro cs ⟨c1, c2, rfl, h1, h2⟩; simp [AVal.sh, Sh.size, iha _ h1, ihb _ h2]
  | one a ih => exact fun cs h => ih cs h
  | ptr r g p => rintro cs ⟨c, rfl, h⟩; rfl
  | nilp => rintro _ rfl; rfl
  | ref p t d => rintro cs ⟨b, o, ds, rfl, _⟩; rfl
  | slc r g => rintro cs ⟨c, rfl, h⟩; rfl
  | sub r g lo len ex => rintro cs ⟨c, rfl, h⟩; rfl
  | nils => rintro cs ⟨b, rfl⟩; rfl
  | map r => rintro cs ⟨c, rfl, h⟩; rfl
  | nilm => rintro _ rfl; rfl
  | fn f caps ih => rintro cs ⟨vs, rfl, h⟩; rfl
  | nilf => rintro _ rfl; rfl
  | iface t v ih => rintro cs ⟨u, rfl, h⟩; rfl
  | nili => rintro _ rfl; rfl
  | tup vs ih => rintro cs ⟨us, rfl, h⟩; rfl
  | nil => rintro _ rfl; rfl
  | cons a b iha ihb => rintro cs ⟨u, us, rfl, h, h'⟩; simp [AVal.sh, Sh.size, ihb _ h']; omega
  | junk => rintro cs ⟨c, rfl, h⟩; rfl

/-- No list of values. -/
def AVal.flat : AVal → Bool
  | .pair a b => a.flat && b.flat
  | .one a => a.flat
  | .tup _ | .nil | .cons _ _ => false
  | _ => true

theorem Ty.Rel.oneCell {h : Heap} {S : Fz} : ∀ (t : Ty) (x : t.den) (cs : List Value), t.Rel h S x cs → ∀ v ∈ cs, v.oneCell' = true := by
  intro t
  induction t with
  | int k => rintro _ _ rfl v hv; simp at hv; subst hv; rfl
  | bool => rintro _ _ rfl v hv; simp at hv; subst hv; rfl
  | str => rintro _ _ rfl v hv; simp at hv; subst hv; rfl
  | unit => rintro _ _ rfl v hv; simp at hv
  | one t ih => exact fun x cs h => ih x cs h
  | pair a b iha ihb =>
    rintro x cs ⟨c1, c2, rfl, h1, h2⟩ v hv
    rcases List.mem_append.1 hv with hv | hv
    · exact iha _ _ h1 v hv
    · exact ihb _ _ h2 v hv
  | arr n t ih =>
    rintro xs cs ⟨hn, css, rfl, A⟩ v hv
    obtain ⟨c, hc, hv⟩ := List.mem_flatten.1 hv
    obtain ⟨i, hi, rfl⟩ := List.getElem_of_mem hc
    exact ih (xs[i]'(by rw [A.1]; exact hi)) _ (A.2 i _ _ (List.getElem?_eq_getElem _) (List.getElem?_eq_getElem _)) v hv
  | slice t ih => rintro xs cs ⟨base, len, cap, rfl, _⟩ v hv; simp at hv; subst hv; rfl
  | pref k =>
    intro p cs h v hv
    cases p with
    | none => rw [show cs = _ from h] at hv; simp at hv; subst hv; rfl
    | some j => obtain ⟨b, _, rfl⟩ := h; simp at hv; subst hv; rfl

theorem AVal.C.oneCell {x : Ctx} : ∀ (v : AVal) (cs : List Value), v.C x cs → v.flat = true → ∀ c ∈ cs, c.oneCell' = true := by
  intro v
  induction v with
  | dat p t d => exact fun cs h _ => Ty.Rel.oneCell _ _ _ h
  | pair a b iha ihb =>
    rintro cs ⟨c1, c2, rfl, h1, h2⟩ hf v hv
    simp only [AVal.flat, Bool.and_eq_true] at hf
    rcases List.mem_append.1 hv with hv | hv
    · exact iha _ h1 hf.1 v hv
    · exact ihb _ h2 hf.2 v hv
  | one a ih => exact fun cs h hf => ih cs h hf
  | ptr r g p => rintro cs ⟨c, rfl, h, _⟩ _ v hv; simp at hv; subst hv; exact h
  | nilp => rintro _ rfl _ v hv; simp at hv; subst hv; rfl
  | ref p t d => rintro cs ⟨b, o, ds, rfl, _⟩ _ v hv; simp at hv; subst hv; rfl
  | slc r g => rintro cs ⟨c, rfl, h, _⟩ _ v hv; simp at hv; subst hv; exact h
  | sub r g lo len ex => rintro cs ⟨c, rfl, h, _⟩ _ v hv; simp at hv; subst hv; exact h
  | nils => rintro cs ⟨b, rfl⟩ _ v hv; simp at hv; subst hv; rfl
  | map r => rintro cs ⟨c, rfl, h, _⟩ _ v hv; simp at hv; subst hv; exact h
  | nilm => rintro _ rfl _ v hv; simp at hv; subst hv; rfl
  | fn f caps ih =>
    rintro cs ⟨vs, rfl, h⟩ _ v hv; simp at hv; subst hv
    obtain ⟨a, b, e⟩ := fnVal_is f caps.isTup vs
    rw [e]; rfl
  | nilf => rintro _ rfl _ v hv; simp at hv; subst hv; rfl
  | iface t v ih => rintro cs ⟨u, rfl, h⟩ _ v hv; simp at hv; subst hv; rfl
  | nili => rintro _ rfl _ v hv; simp at hv; subst hv; rfl
  | tup vs ih => intro cs _ hf; cases hf
  | nil => intro cs _ hf; cases hf
  | cons a b iha ihb => intro cs _ hf; cases hf
  | junk => rintro cs ⟨c, rfl, h⟩ _ v hv; simp at hv; subst hv; exact h

theorem Ty.Rel.ofPlain {h h' : Heap} {S S' : Fz} : ∀ (t : Ty) (x : t.den) (cs : List Value), t.plain = true → t.Rel h S x cs → t.Rel h' S' x cs := by
  intro t
  induction t with
  | int k => exact fun _ _ _ h => h
  | bool => exact fun _ _ _ h => h
  | str => exact fun _ _ _ h => h
  | unit => exact fun _ _ _ h => h
  | one t ih => exact fun x cs hp h => ih x cs hp h
  | pair a b iha ihb =>
    rintro x cs hp ⟨c1, c2, e, h1, h2⟩
    simp only [Ty.plain, Bool.and_eq_true] at hp
    exact ⟨c1, c2, e, iha _ _ hp.1 h1, ihb _ _ hp.2 h2⟩
  | arr n t ih => rintro xs cs hp ⟨hn, css, e, h1⟩; exact ⟨hn, css, e, h1.mono fun x y hxy => ih x y hp hxy⟩
  | slice t ih => intro x cs hp; cases hp
  | pref k => intro x cs hp; cases hp

theorem mkPair_C {x : Ctx} {a b : AVal} {c1 c2 : List Value} (h1 : a.C x c1) (h2 : b.C x c2) : (mkPair a b).C x (c1 ++ c2) := by
  unfold mkPair; split
  · rename_i p ta da q tb db
    cases hpq : p == q with
    | true => obtain rfl : p = q := by simpa using hpq
              exact ⟨c1, c2, rfl, h1, h2⟩
    | false =>
      cases ha : ta.plain with
      | true => exact ⟨c1, c2, rfl, Ty.Rel.ofPlain ta da c1 ha h1, h2⟩
      | false =>
        cases hb : tb.plain with
        | true => exact ⟨c1, c2, rfl, h1, Ty.Rel.ofPlain tb db c2 hb h2⟩
        | false => exact ⟨c1, c2, rfl, h1, h2⟩
  · exact ⟨c1, c2, rfl, h1, h2⟩

theorem mkPair_sh (a b : AVal) : (mkPair a b).sh = .pair a.sh b.sh := by
  unfold mkPair; split
  · rename_i p ta da q tb db
    cases p == q <;> cases ta.plain <;> cases tb.plain <;> rfl
  · rfl
theorem mkPair_agg (a b : AVal) : (mkPair a b).agg = true := by
  unfold mkPair; split
  · rename_i p ta da q tb db
    cases p == q <;> cases ta.plain <;> cases tb.plain <;> rfl
  · rfl
theorem mkOne_C {x : Ctx} {a : AVal} {c : List Value} (h : a.C x c) : (mkOne a).C x c := by unfold mkOne; split <;> exact h
theorem mkOne_sh (a : AVal) : (mkOne a).sh = .one a.sh := by unfold mkOne; split <;> rfl
theorem mkOne_agg (a : AVal) : (mkOne a).agg = true := by unfold mkOne; split <;> rfl

/-- A list parted at an element of a flattened list. -/
theorem flatten_part {α : Type} {css : List (List α)} {n : Nat} (hn : ∀ c ∈ css, c.length = n) {i : Nat} {c : List α} (h : css[i]? = some c) :
    ∃ post, css.flatten = (css.take i).flatten ++ c ++ post ∧ (css.take i).flatten.length = i * n ∧ post = (css.drop (i + 1)).flatten := by
  obtain ⟨hi, rfl⟩ := List.getElem?_eq_some_iff.1 h
  refine ⟨_, ?_, ?_, rfl⟩
  · conv => lhs; rw [← List.take_append_drop i css, List.drop_eq_getElem_cons hi]
    rw [List.flatten_append, List.flatten_cons, List.append_assoc]
  · rw [flatten_length (n := n) (fun d hd => hn d (List.mem_of_mem_take hd)), List.length_take, Nat.min_eq_left (Nat.le_of_lt hi)]

theorem All2.get {α β : Type} {R : α → β → Prop} {xs : List α} {ys : List β} (H : All2 R xs ys) {i : Nat} {x : α} (h : xs[i]? = some x) : ∃ y, ys[i]? = some y ∧ R x y := by
  obtain ⟨hi, rfl⟩ := List.getElem?_eq_some_iff.1 h
  have hi' : i < ys.length := by rw [← H.1]; exact hi
  exact ⟨ys[i], List.getElem?_eq_getElem hi', H.2 i _ _ h (List.getElem?_eq_getElem hi')⟩

theorem All2.set {α β : Type} {R : α → β → Prop} {xs : List α} {ys : List β} (H : All2 R xs ys) (i : Nat) {x : α} {y : β} (h : R x y) : All2 R (xs.set i x) (ys.set i y) := by
  refine ⟨by simp [H.1], fun j u v hu hv => ?_⟩
  rw [List.getElem?_set] at hu hv
  by_cases e : i = j
  · subst e
    simp only [if_true] at hu hv
    split at hu
    · split at hv
      · cases hu; cases hv; exact h
      · cases hv
    · cases hu
  · rw [if_neg e] at hu hv; exact H.2 j u v hu hv

/-- What is read at a path does not hang on what is done with it. -/
theorem getK_inv {R : Type} : ∀ (p : Path) (v : AVal) (k : AVal → Option R) (r : R), v.getK p k = some r → ∃ v', v.getK p some = some v' ∧ k v' = some r := by
  intro p
  induction p with
  | nil => intro v k r e; exact ⟨v, by unfold AVal.getK; rfl, by unfold AVal.getK at e; exact e⟩
  | cons st p ih =>
    intro v k r e
    unfold AVal.getK at e
    split at e <;> try cases e
    all_goals (rename_i hst; try cases hst)
    all_goals simp only [AVal.getK]
    all_goals first
      | exact ih _ _ _ e
      | (split at e
         · exact ih _ _ _ e
         · cases e)

/-- Reading at a path. -/
theorem getK_sound {x : Ctx} : ∀ (p : Path) (v v' : AVal) (cs : List Value), v.C x cs → v.getK p some = some v' →
    ∃ o, v.sh.at p = some (v'.sh, o) ∧ ∃ pre mid post, cs = pre ++ mid ++ post ∧ pre.length = o ∧ v'.C x mid := by
  intro p
  induction p with
  | nil => intro v v' cs h e; simp only [AVal.getK, Option.some.injEq] at e; subst e; exact ⟨0, by unfold Sh.at; rfl, [], cs, [], by simp, rfl, h⟩
  | cons st p ih =>
    intro v v' cs h e
    unfold AVal.getK at e
    split at e <;> try cases e
    all_goals (rename_i hst; try cases hst)
    · obtain ⟨c1, c2, rfl, h1, h2⟩ := h
      obtain ⟨o, ho, pre, mid, post, rfl, hp, hm⟩ := ih _ _ _ (show (AVal.dat _ _ _).C x c1 from h1) e
      exact ⟨o, ho, pre, mid, post ++ c2, by simp, hp, hm⟩
    · obtain ⟨c1, c2, rfl, h1, h2⟩ := h
      obtain ⟨o, ho, pre, mid, post, rfl, hp, hm⟩ := ih _ _ _ (show (AVal.dat _ _ _).C x c2 from h2) e
      refine ⟨c1.length + o, ?_, c1 ++ pre, mid, post, by simp, by simp [hp], hm⟩
      simp only [AVal.sh, Ty.sh, Sh.at] at ho ⊢
      rw [ho, Ty.Rel.length _ _ _ h1, ← Ty.sh_size]
    · rename_i q t d
      exact ih (.dat q t d) _ _ h e
    · rename_i q n t xs i
      split at e
      · rename_i u hu
        obtain ⟨hn, css, rfl, A⟩ := h
        obtain ⟨c, hc, hr⟩ := A.get hu
        obtain ⟨post', e1, e2, _⟩ := flatten_part A.lengths hc
        obtain ⟨o, ho, pre, mid, post, rfl, hp, hm⟩ := ih _ _ _ (show (AVal.dat _ _ _).C x c from hr) e
        refine ⟨i * t.size + o, ?_, (css.take i).flatten ++ pre, mid, post ++ post', by rw [e1]; simp, by simp only [List.length_append]; omega, hm⟩
        simp only [AVal.sh, Ty.sh, Sh.at] at ho ⊢
        rw [ho, Ty.sh_size]
      · cases e
    · obtain ⟨c1, c2, rfl, h1, h2⟩ := h
      obtain ⟨o, ho, pre, mid, post, rfl, hp, hm⟩ := ih _ _ _ h1 e
      exact ⟨o, ho, pre, mid, post ++ c2, by simp, hp, hm⟩
    · obtain ⟨c1, c2, rfl, h1, h2⟩ := h
      obtain ⟨o, ho, pre, mid, post, rfl, hp, hm⟩ := ih _ _ _ h2 e
      refine ⟨c1.length + o, ?_, c1 ++ pre, mid, post, by simp, by simp [hp], hm⟩
      simp only [AVal.sh, Sh.at]
      rw [ho, AVal.C.length _ _ h1]
    · exact ih _ _ _ h e

/-- Writing at a path. -/
theorem setK_sound {x : Ctx} : ∀ (p : Path) (v u v' : AVal) (cs : List Value), v.C x cs → v.setK p u some = some v' → ∀ mid', u.C x mid' →
    v'.sh = v.sh ∧ ∃ o, v.sh.at p = some (u.sh, o) ∧ ∃ pre mid post, cs = pre ++ mid ++ post ∧ pre.length = o ∧ mid.length = mid'.length ∧ v'.C x (pre ++ mid' ++ post) := by
  suffices H : ∀ (p : Path) (R : Type) (v u : AVal) (k : AVal → Option R) (r : R) (cs : List Value), v.C x cs → v.setK p u k = some r → ∃ v', k v' = some r ∧ ∀ mid', u.C x mid' →
      v'.sh = v.sh ∧ ∃ o, v.sh.at p = some (u.sh, o) ∧ ∃ pre mid post, cs = pre ++ mid ++ post ∧ pre.length = o ∧ mid.length = mid'.length ∧ v'.C x (pre ++ mid' ++ post) by
    intro p v u v' cs h e
    obtain ⟨v'', e', h'⟩ := H p AVal v u some v' cs h e
    cases e'; exact h'
  intro p
  induction p with
  | nil =>
    intro R v u k r cs h e
    unfold AVal.setK at e
    split at e
    · rename_i hsh
      refine ⟨u, e, fun mid' hm => ⟨hsh, 0, by rw [hsh]; unfold Sh.at; rfl, [], cs, [], by simp, rfl, ?_, by simpa using hm⟩⟩
      rw [AVal.C.length _ _ h, AVal.C.length _ _ hm, hsh]
    · cases e
  | cons st p ih =>
    intro R v u k r cs h e
    unfold AVal.setK at e
    split at e <;> try cases e
    all_goals (rename_i hst; try cases hst)
    · rename_i q a b d
      obtain ⟨c1, c2, rfl, h1, h2⟩ := h
      obtain ⟨y, hy, H⟩ := ih _ (.dat q a d.1) _ _ _ c1 h1 e
      refine ⟨_, hy, fun mid' hm => ?_⟩
      obtain ⟨e1, o, ho, pre, mid, post, rfl, hp, hl, hc⟩ := H mid' hm
      exact ⟨by rw [mkPair_sh, e1]; rfl, o, ho, pre, mid, post ++ c2, by simp, hp, hl, by simpa using mkPair_C hc (show (AVal.dat q b d.2).C x c2 from h2)⟩
    · rename_i q a b d
      obtain ⟨c1, c2, rfl, h1, h2⟩ := h
      obtain ⟨y, hy, H⟩ := ih _ (.dat q b d.2) _ _ _ c2 h2 e
      refine ⟨_, hy, fun mid' hm => ?_⟩
      obtain ⟨e1, o, ho, pre, mid, post, rfl, hp, hl, hc⟩ := H mid' hm
      refine ⟨by rw [mkPair_sh, e1]; rfl, c1.length + o, ?_, c1 ++ pre, mid, post, by simp, by simp [hp], hl, by simpa using mkPair_C (show (AVal.dat q a d.1).C x c1 from h1) hc⟩
      simp only [AVal.sh, Ty.sh, Sh.at] at ho ⊢
      rw [ho, Ty.Rel.length _ _ _ h1, ← Ty.sh_size]
    · rename_i q t d
      obtain ⟨y, hy, H⟩ := ih _ (.dat q t d) _ _ _ cs h e
      refine ⟨_, hy, fun mid' hm => ?_⟩
      obtain ⟨e1, o, ho, pre, mid, post, rfl, hp, hl, hc⟩ := H mid' hm
      exact ⟨by rw [mkOne_sh, e1]; rfl, o, ho, pre, mid, post, rfl, hp, hl, mkOne_C hc⟩
    · rename_i q n t xs i
      split at e
      · rename_i z hz
        obtain ⟨hn, css, rfl, A⟩ := h
        obtain ⟨c, hc, hr⟩ := A.get hz
        obtain ⟨post', e1, e2, e3⟩ := flatten_part A.lengths hc
        obtain ⟨y, hy, H⟩ := ih _ (.dat q t z) _ _ _ c hr e
        split at hy
        · rename_i q' t' y
          cases hqq : (q' == q || t.plain) with
          | false => rw [hqq] at hy; cases hy
          | true =>
          rw [hqq] at hy
          simp only [cond_true] at hy
          split at hy
          · rename_i ht
            subst ht
            refine ⟨_, hy, fun mid' hm => ?_⟩
            obtain ⟨e4, o, ho, pre, mid, post, rfl, hp, hl, hcc⟩ := H mid' hm
            refine ⟨rfl, i * t'.size + o, ?_, (css.take i).flatten ++ pre, mid, post ++ post', by rw [e1]; simp, by simp only [List.length_append]; omega, hl, ?_⟩
            · simp only [AVal.sh, Ty.sh, Sh.at] at ho ⊢
              rw [ho, Ty.sh_size]
            · have hcc : t'.Rel x.h (x.F q) y (pre ++ mid' ++ post) := by
                rcases Bool.or_eq_true_iff.1 hqq with hq | hq
                · obtain rfl : q' = q := by simpa using hq
                  exact hcc
                · exact Ty.Rel.ofPlain t' y _ hq hcc
              refine ⟨by simpa using hn, css.set i (pre ++ mid' ++ post), ?_, A.set i hcc⟩
              have hi : i < css.length := (List.getElem?_eq_some_iff.1 hc).1
              rw [List.set_eq_take_append_cons_drop, if_pos hi, e3]; simp
          · cases hy
        · cases hy
      · cases e
    · rename_i a b
      obtain ⟨c1, c2, rfl, h1, h2⟩ := h
      obtain ⟨y, hy, H⟩ := ih _ a _ _ _ c1 h1 e
      refine ⟨_, hy, fun mid' hm => ?_⟩
      obtain ⟨e1, o, ho, pre, mid, post, rfl, hp, hl, hc⟩ := H mid' hm
      exact ⟨by rw [mkPair_sh, e1]; rfl, o, ho, pre, mid, post ++ c2, by simp, hp, hl, by simpa using mkPair_C hc h2⟩
    · rename_i a b
      obtain ⟨c1, c2, rfl, h1, h2⟩ := h
      obtain ⟨y, hy, H⟩ := ih _ b _ _ _ c2 h2 e
      refine ⟨_, hy, fun mid' hm => ?_⟩
      obtain ⟨e1, o, ho, pre, mid, post, rfl, hp, hl, hc⟩ := H mid' hm
      refine ⟨by rw [mkPair_sh, e1]; rfl, c1.length + o, ?_, c1 ++ pre, mid, post, by simp, by simp [hp], hl, by simpa using mkPair_C h1 hc⟩
      simp only [AVal.sh, Sh.at]
      rw [ho, AVal.C.length _ _ h1]
    · rename_i a
      obtain ⟨y, hy, H⟩ := ih _ a _ _ _ cs h e
      refine ⟨_, hy, fun mid' hm => ?_⟩
      obtain ⟨e1, o, ho, pre, mid, post, rfl, hp, hl, hc⟩ := H mid' hm
      exact ⟨by rw [mkOne_sh, e1]; rfl, o, ho, pre, mid, post, rfl, hp, hl, mkOne_C hc⟩
end Go.Am

/- The abstract machine, third part: a state and the memory that it stands for; what may change. -/
namespace Go.Am

def EntryRel (x : Ctx) (K V : Ty) (e : K.den × V.den) (c : MapEntry) : Prop := (AVal.dat true K e.1).V x c.key ∧ (AVal.dat true V e.2).V x c.val

def VEntryRel (x : Ctx) (K : Ty) (e : K.den × AVal) (c : MapEntry) : Prop := (AVal.dat true K e.1).V x c.key ∧ e.2.V x c.val

/-- An object, and what lies in memory where it lies. -/
def ObjRel (x : Ctx) (r : Nat) : AObj → Prop
  | .box v => ∃ b c e, x.μ r = some ⟨b, 0, none⟩ ∧ x.h b = some (.cells c e (0, 0)) ∧ v.C x c.toList ∧ v.flat = true
  | .arr _ t xs => (x.μ r = none ∧ xs = []) ∨ ∃ b o c e css, x.μ r = some ⟨b, o, none⟩ ∧ x.h b = some (.cells c e (0, 0)) ∧ All2 (t.Rel x.h (x.F true)) xs css ∧
      ∃ pre post, c.toList = pre ++ css.flatten ++ post ∧ pre.length = o
  | .map K V m bs clk => ∃ b es, x.μ r = some ⟨b, 0, none⟩ ∧ x.h b = some (.map es clk) ∧ All2 (EntryRel x K V) m es.toList ∧ es.toList.map (·.born) = bs
  | .iter v since seen => ∃ b m, x.μ r = some ⟨b, 0, none⟩ ∧ x.h b = some (.mapIter (some m) since seen.reverse.toArray since) ∧ v.C x [.map (some m)] ∧ v.flat = true
  | .vmap K m => ∃ b es clk, x.μ r = some ⟨b, 0, none⟩ ∧ x.h b = some (.map es clk) ∧ All2 (VEntryRel x K) m es.toList
  | .pool t xs => x.pl r = true ∧ r < 64 ∧ x.μ r = none ∧ (∀ j, j < xs.length → ∃ b, x.at_ r j = some b ∧ x.μ (virt r j) = some ⟨b, 0, none⟩) ∧ ∀ j, xs.length ≤ j → x.at_ r j = none
  | .dead | .free => True

structure Mem (x : Ctx) : Prop where
  objs : ∀ r, ObjRel x r (x.obj r)
  apart : ∀ r r' a a', r ≠ r' → (x.obj r).live = true → (x.obj r').live = true → x.μ r = some a → x.μ r' = some a' → a.block ≠ a'.block
  still : ∀ p b, x.S p b → (x.h b).isSome = true ∧ ∀ r a, (x.obj r).live = true → x.μ r = some a → a.block ≠ b
  sub : ∀ b, x.S true b → x.S false b
  len : x.σ.length ≤ 64

theorem Mem.low {x : Ctx} (M : Mem x) {r : Nat} {o : AObj} (h : x.σ[r]? = some o) : r < 64 :=
  Nat.lt_of_lt_of_le (List.getElem?_eq_some_iff.1 h).1 M.len

/-- An object that lies somewhere lies in a block that is there. -/
theorem Mem.there {x : Ctx} (M : Mem x) {r : Nat} {a : Addr} (hl : (x.obj r).live = true) (ha : x.μ r = some a) : (x.h a.block).isSome = true := by
  have h := M.objs r
  cases ho : x.obj r with
  | box v => rw [ho] at h; obtain ⟨b, c, e, h1, h2, _⟩ := h; rw [h1] at ha; cases ha; simp [h2]
  | arr g t xs =>
    rw [ho] at h
    rcases h with ⟨h1, _⟩ | ⟨b, o, c, e, css, h1, h2, _⟩
    · rw [h1] at ha; cases ha
    · rw [h1] at ha; cases ha; simp [h2]
  | map K V m bs clk => rw [ho] at h; obtain ⟨b, es, h1, h2, _⟩ := h; rw [h1] at ha; cases ha; simp [h2]
  | iter v s l => rw [ho] at h; obtain ⟨b, m, h1, h2, _⟩ := h; rw [h1] at ha; cases ha; simp [h2]
  | vmap K m => rw [ho] at h; obtain ⟨b, es, clk, h1, h2, _⟩ := h; rw [h1] at ha; cases ha; simp [h2]
  | pool t xs => rw [ho] at h; rw [h.2.2.1] at ha; cases ha
  | dead => rw [ho] at hl; cases hl
  | free => rw [ho] at hl; cases hl

theorem Keeps.refl (x : Ctx) (r : Nat) : Keeps x x r := ⟨fun _ _ _ h => h, fun _ _ h => h, fun _ _ _ _ _ h => h, fun _ h => h⟩

theorem Keeps.trans {x y z : Ctx} {r : Nat} (h : Keeps x y r) (h' : Keeps y z r) : Keeps x z r :=
  ⟨fun _ _ _ k => h'.ptr _ _ _ (h.ptr _ _ _ k), fun _ _ k => h'.slc _ _ (h.slc _ _ k), fun _ _ _ _ _ k => h'.sub _ _ _ _ _ (h.sub _ _ _ _ _ k), fun _ k => h'.map _ (h.map _ k)⟩

/-- What was free may become anything: nothing speaks of it. -/
theorem Keeps.ofFree {x x' : Ctx} {r : Nat} (h : x.obj r = .free) : Keeps x x' r := by
  refine ⟨fun g p c k => ?_, fun g c k => ?_, fun g lo len ex c k => ?_, fun c k => ?_⟩ <;> simp [PtrRel, SlcRel, SubRel, MapRel, h] at k

/-- Of what is dead nothing is said. -/
theorem Keeps.toDead {x x' : Ctx} {r : Nat} (h : x'.obj r = .dead) : Keeps x x' r := by
  refine ⟨fun g p c k => ?_, fun g c k => ?_, fun g lo len ex c k => ?_, fun c k => ?_⟩ <;> simp [PtrRel, SlcRel, SubRel, MapRel, h]

/-- The object is the same, lies where it lay, and its block is as long. -/
theorem Keeps.same {x x' : Ctx} {r : Nat} (ho : x'.obj r = x.obj r) (hm : x'.μ r = x.μ r)
    (hr : ∀ a n, (x.obj r).live = true → x.μ r = some a → Am.Roomy x.h a n → Am.Roomy x'.h a n) : Keeps x x' r := by
  refine ⟨fun g p c k => ?_, fun g c k => ?_, fun g lo len ex c k => ?_, fun c k => ?_⟩
  · simp only [PtrRel, ho, hm] at *; exact k
  · simp only [SlcRel, ho, hm] at *
    cases hobj : x.obj r with
    | arr g' t xs =>
      simp only [hobj] at k ⊢
      refine ⟨k.1, fun hg => ?_⟩; have k := k.2 hg
      cases hmu : x.μ r with
      | none => simp only [hmu] at k ⊢; exact k
      | some a => simp only [hmu] at k ⊢; obtain ⟨cap, e, hc, hroom⟩ := k; exact ⟨cap, e, hc, hr a _ (by simp [hobj, AObj.live]) hmu hroom⟩
    | _ => simp only [hobj] at k ⊢
  · simp only [SubRel, ho, hm] at *
    cases hobj : x.obj r with
    | arr g' t xs =>
      simp only [hobj] at k ⊢
      refine ⟨k.1, fun hg => ?_⟩
      obtain ⟨k1, base, cap, k2, k3, k4, k5, k6, k7⟩ := k.2 hg
      refine ⟨k1, base, cap, k2, k3, k4, k5, k6, fun b hb hp => ?_⟩
      obtain ⟨a, ha, e, hroom⟩ := k7 b hb hp
      exact ⟨a, ha, e, hr a _ (by simp [hobj, AObj.live]) ha hroom⟩
    | _ => simp only [hobj] at k ⊢
  · simp only [MapRel, ho, hm] at *; exact k

/-- From one state to another in which object r alone is another one, or lies elsewhere; memory was written in its block alone, or in new ones. -/
structure Upd0 (x x' : Ctx) (r : Nat) : Prop where
  S : x'.S = x.S
  at_ : x'.at_ = x.at_
  pl : x'.pl = x.pl
  low : r < 64
  len : x'.σ.length = x.σ.length
  obj : ∀ r', r' ≠ r → x'.obj r' = x.obj r'
  μ : ∀ r', r' ≠ r → x'.μ r' = x.μ r'
  h : ∀ b, (x.h b).isSome = true → (∀ a, (x.obj r).live = true → x.μ r = some a → a.block ≠ b) → x'.h b = x.h b
  keep : Keeps x x' r
  blk : ∀ a', (x'.obj r).live = true → x'.μ r = some a' → (∃ a, (x.obj r).live = true ∧ x.μ r = some a ∧ a.block = a'.block) ∨ (x.h a'.block).isSome = false

structure Upd (x x' : Ctx) (r : Nat) : Prop extends Upd0 x x' r where
  rel : ObjRel x' r (x'.obj r)

theorem Upd0.hS {x x' : Ctx} {r : Nat} (U : Upd0 x x' r) (M : Mem x) : HS x x' := ⟨fun p b hb =>
  ⟨by rw [U.S]; exact hb, U.h b (M.still p b hb).1 fun a hl ha => (M.still p b hb).2 r a hl ha⟩, fun _ _ _ h => by rw [U.at_]; exact h⟩

theorem Upd0.hother {x x' : Ctx} {r : Nat} (U : Upd0 x x' r) (M : Mem x) {r' : Nat} {a : Addr} (hr : r' ≠ r) (hl : (x.obj r').live = true) (ha : x.μ r' = some a) : x'.h a.block = x.h a.block :=
  U.h _ (M.there hl ha) fun a' hl' ha' => fun e => M.apart r' r a a' hr hl hl' ha ha' e.symm

theorem Upd0.keeps {x x' : Ctx} {r : Nat} (U : Upd0 x x' r) (M : Mem x) (r' : Nat) : Keeps x x' r' := by
  by_cases hr : r' = r
  · subst hr; exact U.keep
  · exact .same (U.obj r' hr) (U.μ r' hr) fun a n hl ha hroom => by unfold Am.Roomy at *; rw [U.hother M hr hl ha]; exact hroom

theorem DatV.congr {x x' : Ctx} (hs : HS x x') {p : Bool} {t : Ty} {d : t.den} {u : Value} (h : (AVal.dat p t d).V x u) : (AVal.dat p t d).V x' u := by
  unfold AVal.V at *
  by_cases hv : (AVal.dat p t d).agg = true
  · rw [if_pos hv] at h ⊢; obtain ⟨c, e, h⟩ := h; exact ⟨c, e, Ty.Rel.congr (hs.t p) _ _ _ h⟩
  · rw [if_neg hv] at h ⊢; exact Ty.Rel.congr (hs.t p) _ _ _ h

theorem VEntryRel.congr {x x' : Ctx} (hs : HS x x') (hk : ∀ r, Keeps x x' r) {K : Ty} {e : K.den × AVal} {c : MapEntry} (h : VEntryRel x K e c) : VEntryRel x' K e c := by
  refine ⟨DatV.congr hs h.1, ?_⟩
  have h2 := h.2
  unfold AVal.V at *
  split at h2
  · rename_i hv; rw [if_pos hv]; obtain ⟨c, e, h⟩ := h2; exact ⟨c, e, h.mono hs hk⟩
  · rename_i hv; rw [if_neg hv]; exact AVal.C.mono hs hk _ _ h2

theorem ObjRel.congr {x x' : Ctx} (hs : HS x x') (hk : ∀ r, Keeps x x' r) {r : Nat} (hm : x'.μ r = x.μ r)
    {o : AObj} (hb : ∀ a, o.live = true → x.μ r = some a → x'.h a.block = x.h a.block) (hp : o.isPool = true → (∀ j, x'.μ (virt r j) = x.μ (virt r j)) ∧ x'.at_ r = x.at_ r ∧ x'.pl r = x.pl r) (h : ObjRel x r o) : ObjRel x' r o := by
  cases o with
  | box v => obtain ⟨b, c, e, h1, h2, h3, h4⟩ := h; exact ⟨b, c, e, hm.trans h1, (hb _ rfl h1).trans h2, h3.mono hs hk, h4⟩
  | arr g t xs =>
    rcases h with ⟨h1, h2⟩ | ⟨b, o, c, e, css, h1, h2, h3, h4⟩
    · exact .inl ⟨hm.trans h1, h2⟩
    · exact .inr ⟨b, o, c, e, css, hm.trans h1, (hb _ rfl h1).trans h2, h3.mono fun _ _ h => h.congr (hs.t true), h4⟩
  | map K V m bs clk =>
    obtain ⟨b, es, h1, h2, h3, h4⟩ := h
    exact ⟨b, es, hm.trans h1, (hb _ rfl h1).trans h2, h3.mono fun _ _ h => ⟨DatV.congr hs h.1, DatV.congr hs h.2⟩, h4⟩
  | iter v s l => obtain ⟨b, m, h1, h2, h3, h4⟩ := h; exact ⟨b, m, hm.trans h1, (hb _ rfl h1).trans h2, h3.mono hs hk, h4⟩
  | vmap K m => obtain ⟨b, es, clk, h1, h2, h3⟩ := h; exact ⟨b, es, clk, hm.trans h1, (hb _ rfl h1).trans h2, h3.mono fun _ _ h => h.congr hs hk⟩
  | pool t xs =>
    obtain ⟨p1, p2, p3⟩ := hp rfl
    obtain ⟨h1, h2, h3, h4, h5⟩ := h
    refine ⟨p3.trans h1, h2, hm.trans h3, fun j hj => ?_, fun j hj => by rw [p2]; exact h5 j hj⟩
    obtain ⟨b, k1, k2⟩ := h4 j hj
    exact ⟨b, by rw [p2]; exact k1, (p1 j).trans k2⟩
  | dead => trivial
  | free => trivial

theorem Upd.mem {x x' : Ctx} {r : Nat} (U : Upd x x' r) (M : Mem x) : Mem x' := by
  have hnew : ∀ (r' : Nat) (a a' : Addr), r' ≠ r → (x.obj r').live = true → x.μ r' = some a → (x'.obj r).live = true → x'.μ r = some a' → a.block ≠ a'.block := by
    intro r' a a' hr hl ha hl' ha' e
    rcases U.blk a' hl' ha' with ⟨a0, h1, h2, h3⟩ | h
    · exact M.apart r' r a a0 hr hl h1 ha h2 (e.trans h3.symm)
    · have := M.there hl ha; rw [e, h] at this; cases this
  refine ⟨fun r' => ?_, fun r1 r2 a1 a2 hne l1 l2 m1 m2 => ?_, fun p b hb => ?_, fun b hb => ?_, by rw [U.len]; exact M.len⟩
  · by_cases hr : r' = r
    · subst hr; exact U.rel
    · rw [U.obj r' hr]
      refine ObjRel.congr (U.toUpd0.hS M) (U.toUpd0.keeps M) (U.μ r' hr) (fun a hl ha => U.toUpd0.hother M hr hl ha) (fun _ => ⟨fun j => U.μ _ fun e => by have := virt_ge r' j; have := U.low; omega, by rw [U.at_], by rw [U.pl]⟩) (M.objs r')
  · by_cases h1 : r1 = r
    · subst h1
      have h2 : r2 ≠ r1 := fun e => hne e.symm
      rw [U.obj r2 h2] at l2; rw [U.μ r2 h2] at m2
      exact fun e => hnew r2 a2 a1 h2 l2 m2 l1 m1 e.symm
    · rw [U.obj r1 h1] at l1; rw [U.μ r1 h1] at m1
      by_cases h2 : r2 = r
      · subst h2; exact hnew r1 a1 a2 h1 l1 m1 l2 m2
      · rw [U.obj r2 h2] at l2; rw [U.μ r2 h2] at m2
        exact M.apart r1 r2 a1 a2 hne l1 l2 m1 m2
  · rw [U.S] at hb
    obtain ⟨h1, h2⟩ := M.still p b hb
    refine ⟨by rw [(U.toUpd0.hS M p b hb).2]; exact h1, fun r' a hl ha => ?_⟩
    by_cases hr : r' = r
    · subst hr
      rcases U.blk a hl ha with ⟨a0, k1, k2, k3⟩ | hn
      · exact fun e => h2 r' a0 k1 k2 (k3.trans e)
      · exact fun e => by rw [e] at hn; rw [hn] at h1; cases h1
    · rw [U.obj r' hr] at hl; rw [U.μ r' hr] at ha; exact h2 r' a hl ha
  · rw [U.S] at hb ⊢; exact M.sub b hb

/-- No memory was written, no object has moved; some are others now, of which no less is said. -/
theorem Mem.objects {x x' : Ctx} (M : Mem x) (hS : x'.S = x.S) (hh : x'.h = x.h) (hμ : x'.μ = x.μ) (hrel : ∀ r, ObjRel x' r (x'.obj r)) (hl : ∀ r, (x'.obj r).live = true → (x.obj r).live = true) (hlen : x'.σ.length ≤ 64) : Mem x' :=
  ⟨hrel, fun r r' a a' hne l l' m m' => M.apart r r' a a' hne (hl r l) (hl r' l') (hμ ▸ m) (hμ ▸ m'),
    fun p b hb => by rw [hS] at hb; rw [hh, hμ]; exact ⟨(M.still p b hb).1, fun r a l m => (M.still p b hb).2 r a (hl r l) m⟩,
    fun b hb => by rw [hS] at hb ⊢; exact M.sub b hb, hlen⟩
end Go.Am

/- The abstract machine, fourth part: what a step of the model may do to a state; types as a table; loads and stores. -/
namespace Go.Am

def Owned (x : Ctx) (b : Nat) : Prop := ∃ r a, (x.obj r).live = true ∧ x.μ r = some a ∧ a.block = b

structure Goes (x : Ctx) (w : World) (x' : Ctx) (w' : World) : Prop where
  mem : Mem x'
  h : x'.h = fun b => w'.heap[b]?
  S : HS x x'
  pl : x'.pl = x.pl
  at_ : ∀ p, x.pl p = false → x'.at_ p = x.at_ p
  keeps : ∀ r, Keeps x x' r
  os : w'.os = w.os
  tape : w'.tape = w.tape
  output : w'.output = w.output
  size : w.heap.size ≤ w'.heap.size
  frame : ∀ b, b < w.heap.size → ¬ Owned x b → w'.heap[b]? = w.heap[b]?
  own : ∀ b, Owned x' b → Owned x b ∨ w.heap.size ≤ b
  newS : ∀ p b, x'.S p b → x.S p b ∨ Owned x b ∨ w.heap.size ≤ b

theorem Goes.refl {x : Ctx} {w : World} (M : Mem x) (hh : x.h = fun b => w.heap[b]?) : Goes x w x w :=
  ⟨M, hh, ⟨fun _ _ h => ⟨h, rfl⟩, fun _ _ _ h => h⟩, rfl, fun _ _ => rfl, fun r => .refl x r, rfl, rfl, rfl, Nat.le_refl _, fun _ _ _ => rfl, fun _ h => .inl h, fun _ _ h => .inl h⟩

theorem Goes.trans {x y z : Ctx} {w v u : World} (h : Goes x w y v) (k : Goes y v z u) : Goes x w z u where
  mem := k.mem
  h := k.h
  S := ⟨fun p b hb => ⟨(k.S p b (h.S p b hb).1).1, ((k.S p b (h.S p b hb).1).2).trans (h.S p b hb).2⟩, fun p j b hb => k.S.at_ p j b (h.S.at_ p j b hb)⟩
  pl := k.pl.trans h.pl
  at_ := fun p hp => (k.at_ p (by rw [h.pl]; exact hp)).trans (h.at_ p hp)
  keeps := fun r => (h.keeps r).trans (k.keeps r)
  os := k.os.trans h.os
  tape := k.tape.trans h.tape
  output := k.output.trans h.output
  size := Nat.le_trans h.size k.size
  frame := fun b hb ho => (k.frame b (Nat.lt_of_lt_of_le hb h.size) fun o => (h.own b o).elim ho fun hle => by omega).trans (h.frame b hb ho)
  own := fun b o => (k.own b o).elim (h.own b) fun hle => .inr (Nat.le_trans h.size hle)
  newS := fun p b hs => by
    rcases k.newS p b hs with h1 | h1 | h1
    · exact h.newS p b h1
    · rcases h.own b h1 with h2 | h2
      · exact .inr (.inl h2)
      · exact .inr (.inr h2)
    · exact .inr (.inr (Nat.le_trans h.size h1))

theorem isSome_heap {w : World} {b : Nat} : (w.heap[b]?).isSome = true ↔ b < w.heap.size := by simp

/-- A draw. -/
theorem Goes.drew {x : Ctx} {w : World} (M : Mem x) (hh : x.h = fun b => w.heap[b]?) (n : Nat) : Goes x w x { w with drawn := n } :=
  ⟨M, hh, ⟨fun _ _ h => ⟨h, rfl⟩, fun _ _ _ h => h⟩, rfl, fun _ _ => rfl, fun r => .refl x r, rfl, rfl, rfl, Nat.le_refl _, fun _ _ _ => rfl, fun _ h => .inl h, fun _ _ h => .inl h⟩

theorem Upd.goes {x x' : Ctx} {r : Nat} {w w' : World} (U : Upd x x' r) (M : Mem x) (hh : x.h = fun b => w.heap[b]?) (hh' : x'.h = fun b => w'.heap[b]?)
    (os : w'.os = w.os) (tape : w'.tape = w.tape) (output : w'.output = w.output) (size : w.heap.size ≤ w'.heap.size) : Goes x w x' w' where
  mem := U.mem M
  h := hh'
  S := U.toUpd0.hS M
  pl := U.pl
  at_ := fun p _ => by rw [U.at_]
  keeps := U.toUpd0.keeps M
  os := os
  tape := tape
  output := output
  size := size
  frame := fun b hb ho => by
    have h := U.h b (by rw [hh]; simpa using hb) fun a hl ha e => ho ⟨r, a, hl, ha, e⟩
    rw [hh, hh'] at h; exact h
  own := fun b ⟨r', a, hl, ha, e⟩ => by
    by_cases hr : r' = r
    · subst hr
      rcases U.blk a hl ha with ⟨a0, h1, h2, h3⟩ | hn
      · exact .inl ⟨r', a0, h1, h2, h3.trans e⟩
      · refine .inr ?_
        rw [hh, e] at hn
        simpa using hn
    · rw [U.obj r' hr] at hl; rw [U.μ r' hr] at ha; exact .inl ⟨r', a, hl, ha, e⟩
  newS := fun p b hb => by rw [U.S] at hb; exact .inl hb

/-- What a type is. -/
inductive Und where
  | int (k : IntKind) | bool | str
  | struct (fs : List (Nat × TypeId)) | arr (n : Nat) (e : TypeId)
  | slice (e : TypeId) | map (k e : TypeId) | ptr (e : TypeId) | other

structure TD where
  und : Und
  size : Nat
  bytes : Nat
  zero : AVal
  cmp : Bool := false

abbrev Tbl := TypeId → Option TD

def Und.agg : Und → Bool
  | .struct _ | .arr _ _ => true
  | _ => false

def UndOk (P : Program) (t : TypeId) : Und → Prop
  | .int k => P.underlying t = some (.int k)
  | .bool => P.underlying t = some .bool
  | .str => P.underlying t = some .string
  | .struct fs => ∃ fields, P.underlying t = some (.struct fields) ∧ fields.toList.map (fun f => (f.offset, f.type)) = fs ∧ ∀ f ∈ fields.toList, f.name ≠ "_"
  | .arr n e => P.underlying t = some (.array n e)
  | .slice e => P.underlying t = some (.slice e)
  | .map k e => P.underlying t = some (.map k e)
  | .ptr e => P.underlying t = some (.pointer e)
  | .other => ∃ d, P.underlying t = some d ∧ (match d with | .struct _ | .array _ _ => true | _ => false) = false

structure TdOk (P : Program) (t : TypeId) (d : TD) : Prop where
  info : ∃ i, P.info? t = some i ∧ i.size = d.size ∧ i.bytes = d.bytes ∧ ∃ z, i.zero = some z ∧ ∀ x : Ctx, d.zero.V x z
  und : UndOk P t d.und
  plain : d.cmp = true → P.stoodInHeld t = false ∧ P.eqGuardType P.depth t = false

def TblOk (P : Program) (T : Tbl) : Prop := ∀ t d, T t = some d → TdOk P t d

section
variable {P : Program} {T : Tbl} {t : TypeId} {d : TD} {w : World}

theorem TdOk.isAgg (h : TdOk P t d) : (isAgg t).run P w = .ok d.und.agg w := by
  have hu := h.und
  unfold Go.isAgg
  cases hd : d.und with
  | struct fs => rw [hd] at hu; obtain ⟨fields, h1, _⟩ := hu; simp [run_underlying h1, Und.agg]
  | other =>
    rw [hd] at hu; obtain ⟨e, h1, h2⟩ := hu
    simp only [Sem.run_bind, run_underlying h1, Result.andThen_ok, Und.agg]
    cases e <;> first | rfl | cases h2
  | _ => rw [hd] at hu; simp [run_underlying (show P.underlying t = _ from hu), Und.agg]

theorem TdOk.sizeOf (h : TdOk P t d) : (sizeOf t).run P w = .ok d.size w := by
  obtain ⟨i, h1, h2, _⟩ := h.info
  unfold Go.sizeOf
  simp [run_typeInfo _ h1, h2]

theorem TdOk.typeInfo (h : TdOk P t d) : ∃ i : TypeInfo, (typeInfo t).run P w = .ok i w ∧ i.size = d.size ∧ i.bytes = d.bytes := by
  obtain ⟨i, h1, h2, h3, _⟩ := h.info
  exact ⟨i, run_typeInfo _ h1, h2, h3⟩

theorem TdOk.zeroValue (h : TdOk P t d) : ∃ z, (zeroValue t).run P w = .ok z w ∧ ∀ x : Ctx, d.zero.V x z := by
  obtain ⟨i, h1, _, _, z, h4, h5⟩ := h.info
  refine ⟨z, ?_, h5⟩
  unfold Go.zeroValue
  simp [run_typeInfo _ h1, h4]
end

theorem add_mk (b o n : Nat) : (⟨b, o, none⟩ : Addr).add n = ⟨b, o + n, none⟩ := by
  unfold Addr.add
  split
  · rename_i h; subst h; rfl
  · rfl

theorem cell_of_heap {w : World} {b o : Nat} {c : Array Value} {e : TypeId} {fr : Nat × Nat} (h : w.heap[b]? = some (.cells c e fr)) : w.cell? ⟨b, o, none⟩ = c[o]? := by
  simp [World.cell?, h]

/-- The value that a variable of so many cells holds. -/
def valueOf (agg : Bool) (cs : List Value) : Value := if agg then .agg cs.toArray else cs.headD undef

theorem V_valueOf {x : Ctx} {v : AVal} {cs : List Value} (h : v.C x cs) (hs : v.agg = false → cs.length = 1) : v.V x (valueOf v.agg cs) := by
  unfold AVal.V valueOf
  by_cases hv : v.agg = true
  · simp only [hv, if_true]; exact ⟨_, rfl, by simpa using h⟩
  · have := hs (by simpa using hv)
    obtain ⟨c, rfl⟩ := List.length_eq_one_iff.1 this
    simpa [hv] using h

theorem C_one {x : Ctx} {v : AVal} {c : Array Value} (hf : v.flat = true) (h : v.C x [.agg c]) : v.agg = true := by
  have := AVal.C.oneCell v _ h hf (.agg c) (by simp)
  cases this

theorem V_inv {x : Ctx} {v : AVal} {u : Value} (hf : v.flat = true) (h : v.V x u) : v.C x u.cells.toList ∧ (v.agg = true → ∃ c, u = .agg c) ∧ (v.agg = false → u.cells.toList = [u]) := by
  unfold AVal.V at h
  by_cases hv : v.agg = true
  · rw [if_pos hv] at h
    obtain ⟨c, rfl, h⟩ := h
    exact ⟨h, fun _ => ⟨c, rfl⟩, fun e => by rw [e] at hv; cases hv⟩
  · rw [if_neg hv] at h
    have hu : u.cells.toList = [u] := by
      cases u with
      | agg c => exact absurd (C_one hf h) hv
      | _ => rfl
    exact ⟨by rw [hu]; exact h, fun e => absurd e hv, fun _ => hu⟩

theorem all2_drop_get {c : Array Value} {pre mid post : List Value} (e : c.toList = pre ++ mid ++ post) (j : Nat) {v : Value} (h : mid[j]? = some v) : c[pre.length + j]? = some v := by
  rw [← Array.getElem?_toList, e, List.append_assoc, List.getElem?_append_right (by omega), show pre.length + j - pre.length = j by omega, List.getElem?_append_left (List.getElem?_eq_some_iff.1 h).1]
  exact h

/-- Reading a variable that lies in the middle of a row. -/
theorem run_loadVar_at {P : Program} {T : Tbl} (hT : TblOk P T) {t : TypeId} {d : TD} (ht : T t = some d) {w : World} {b o : Nat} {c : Array Value} {e : TypeId} {fr : Nat × Nat} (hb : w.heap[b]? = some (.cells c e fr))
    {mid : List Value} (hm : ∀ (j : Nat) v, mid[j]? = some v → c[o + j]? = some v) (hd : d.size = mid.length) (h1 : d.und.agg = false → mid.length = 1) :
    (loadVar t ⟨b, o, none⟩).run P w = .ok (valueOf d.und.agg mid) w := by
  have hok := hT t d ht
  unfold loadVar
  simp only [Sem.run_bind, hok.isAgg, Result.andThen_ok]
  by_cases ha : d.und.agg = true
  · have hl := run_loadCells_list (P := P) w ⟨b, o, none⟩ mid (fun j v hv => by rw [add_mk, cell_of_heap hb]; exact hm j v hv)
    simp only [ha, if_true, Sem.run_bind, hok.sizeOf, Result.andThen_ok, hd, hl, Sem.run_pure, valueOf]
  · obtain ⟨v, rfl⟩ := List.length_eq_one_iff.1 (h1 (by simpa using ha))
    have hc : w.cell? ⟨b, o, none⟩ = some v := by rw [cell_of_heap hb]; simpa using hm 0 v rfl
    simp [ha, run_load, hc, valueOf]

theorem setRow_heap_eq {w : World} {b : Nat} {c : Array Value} {e : TypeId} {fr : Nat × Nat} (h : w.heap[b]? = some (.cells c e fr)) (c' : Array Value) (b' : Nat) :
    (w.setRow b c').heap[b']? = if b' = b then some (.cells c' e fr) else w.heap[b']? := by
  by_cases hb : b' = b
  · subst hb; rw [if_pos rfl]; exact setRow_heap w _ c c' e fr h
  · rw [if_neg hb]
    simp only [World.setRow, Array.getElem?_modify]
    rw [if_neg (fun e => hb e.symm)]

/-- Writing a variable that lies in the middle of a row. -/
theorem run_storeVar_at {P : Program} {T : Tbl} (hT : TblOk P T) {t : TypeId} {d : TD} (ht : T t = some d) {w : World} {b : Nat} {c : Array Value} {e : TypeId} (hb : w.heap[b]? = some (.cells c e (0, 0)))
    {pre mid post : List Value} (hc : c.toList = pre ++ mid ++ post) {u : Value} (hd : d.size = u.cells.toList.length) (hm : mid.length = u.cells.toList.length) (h1 : ∀ v ∈ u.cells.toList, v.oneCell' = true) :
    (storeVar t ⟨b, pre.length, none⟩ u).run P w = .ok () (w.setRow b (pre ++ u.cells.toList ++ post).toArray) := by
  have hok := hT t d ht
  have hlen : c.size = pre.length + mid.length + post.length := by rw [← Array.length_toList, hc]; simp; omega
  unfold storeVar
  have hs := run_storeCells_at (P := P) b pre.length e u.cells.toList 0 c w hb (by rw [hlen]; omega) h1
  simp only [Sem.run_bind, hok.sizeOf, Result.andThen_ok]
  rw [if_neg (by rw [hd]; simp), hs]
  congr 3
  rw [hc]
  have e1 : List.take (pre.length + 0) (pre ++ mid ++ post) = pre := by simp
  have e2 : List.drop (pre.length + 0 + u.cells.toList.length) (pre ++ mid ++ post) = post := by
    rw [← hm, List.append_assoc, show pre.length + 0 + mid.length = pre.length + mid.length by omega, ← List.drop_drop, List.drop_left, List.drop_left]
  rw [e1, e2]
end Go.Am

/- The abstract machine, fifth part: its operations on values, and that each does what the model's does. -/
namespace Go.Am

abbrev Ups := List (Nat × AObj)

def applyUps (σ : List AObj) : Ups → List AObj
  | [] => σ
  | (r, o) :: u => applyUps (σ.set r o) u

/-- What one operation is good for: wherever the code goes on from its value, the model does. -/
def ActOk (P : Program) (o : Oper) (a : Act) (w : World) (x : Ctx) (v : AVal) (ups : Ups) : Prop :=
  ∀ (next : Act → World → Prop) (Q : Exit → Act → World → Prop),
    (∀ u w' x', Goes x w x' w' → x'.σ = applyUps x.σ ups → v.V x' u → next (a.put o.dst u) w') → o.wp P a w next Q

/-- The state that an operation meets. -/
structure Meets (P : Program) (T : Tbl) (ρ : Operand → Option AVal) (get : Nat → Option AObj) (a : Act) (w : World) (x : Ctx) : Prop where
  tbl : TblOk P T
  mem : Mem x
  h : x.h = fun b => w.heap[b]?
  val : ∀ o v, ρ o = some v → v.V x (a.eval o)
  obj : ∀ r ob, get r = some ob → x.σ[r]? = some ob

theorem ActOk.value {P : Program} {o : Oper} {a : Act} {w : World} {x : Ctx} {v : AVal} {u : Value} (M : Mem x) (hh : x.h = fun b => w.heap[b]?)
    (hr : (execOp a.eval o).run P w = .ok (.value u) w) (hv : v.V x u) : ActOk P o a w x v [] := by
  intro next Q h
  unfold Oper.wp
  rw [hr, Oper.upon_value]
  exact h u w x (.refl M hh) rfl hv

section defs
variable {R : Type} (T : Tbl)

def TD.isAs (d : TD) (u : AVal) : Bool := Nat.beq d.size u.sh.size && (d.und.agg == u.agg)

/-- The object behind a reference, as one value. -/
def rootK (get : Nat → Option AObj) (r g : Nat) (k : AVal → Option R) : Option R :=
  match get r with
  | some (.box b) => k b
  | some (.arr g' τ xs) => bif Nat.beq g g' then k (.dat true (.arr xs.length τ) xs) else none
  | _ => none

def actLoad (get : Nat → Option AObj) (t : TypeId) (v : AVal) (k : AVal → Ups → Option R) : Option R :=
  match T t with
  | some d => match v with
    | .ptr r g p => rootK get r g fun b => b.getK p fun u => bif d.isAs u then k u [] else none
    | .ref q τ y => bif d.isAs (.dat q τ y) then k (.dat q τ y) [] else none
    | _ => none
  | none => none

/-- A way that begins at an element. -/
def idxPath : Path → Bool
  | .idx _ :: _ => true
  | _ => false

def actStore (get : Nat → Option AObj) (t : TypeId) (v u : AVal) (k : AVal → Ups → Option R) : Option R :=
  match T t with
  | some d => match v with
    | .ptr r g p => bif d.isAs u && u.flat then
        (match get r with
          | some (.box b) => b.setK p u fun b' => bif b'.flat then k (.tup .nil) [(r, .box b')] else none
          | some (.arr g' τ xs) => bif Nat.beq g g' && idxPath p then (AVal.dat true (.arr xs.length τ) xs).setK p u fun
            | .dat true (.arr _ τ') ys => if h : τ' = τ then k (.tup .nil) [(r, .arr g' τ (h ▸ ys))] else none
            | _ => none else none
          | _ => none) else none
    | _ => none
  | none => none

def actAlloc (get : Nat → Option AObj) (base : Nat) (v : AVal) (k : AVal → Ups → Option R) : Option R :=
  match get base with
  | some .free => bif v.flat then k (.ptr base 0 []) [(base, .box v)] else none
  | _ => none

def pairPath : Nat → Nat → Path
  | 1, _ => [.one]
  | _ + 2, 0 => [.fst]
  | 2, _ + 1 => [.snd]
  | n + 3, j + 1 => .snd :: pairPath (n + 2) j
  | 0, _ => []

def shapeOf : AObj → Nat → Option Sh
  | .box v, _ => some v.sh
  | .arr g' τ _, g => bif Nat.beq g g' then some (.arr τ.sh 0) else none
  | _, _ => none

/-- Does a path lead so many cells on? -/
def Sh.leads (s : Sh) (p : Path) (off size : Nat) : Bool :=
  match s.at p with
  | some (s', o) => Nat.beq o off && Nat.beq s'.size size
  | none => false

def actFieldAddr (get : Nat → Option AObj) (t : TypeId) (v : AVal) (j : Nat) (k : AVal → Ups → Option R) : Option R :=
  match T t with
  | some { und := .struct fs, .. } => match fs[j]? with
    | some (off, ft) => match T ft with
      | some fd => bif Nat.beq fd.size 0 then none else match v with
        | .ptr r g p => match get r with
          | some ob => match shapeOf ob g with
            | some s => match s.at p with
              | some (s', _) => bif s'.leads (pairPath fs.length j) off fd.size then k (.ptr r g (p ++ pairPath fs.length j)) [] else none
              | none => none
            | none => none
          | none => none
        | .ref own τ y => bif τ.sh.leads (pairPath fs.length j) off fd.size then
            (AVal.dat own τ y).getK (pairPath fs.length j) fun
              | .dat own' τ' y' => bif own' == own then k (.ref own τ' y') [] else none
              | _ => none else none
        | _ => none
      | none => none
    | none => none
  | _ => none
end defs

theorem applyUps_one {σ : List AObj} {r : Nat} {o : AObj} : applyUps σ [(r, o)] = σ.set r o := rfl

theorem obj_of_get {x : Ctx} (M : Mem x) {r : Nat} {ob : AObj} (h : x.σ[r]? = some ob) : x.obj r = ob := by
  unfold Ctx.obj; rw [objAt_low (M.low h), List.getD_eq_getElem?_getD, h]; rfl

theorem getD_set {σ : List AObj} {r r' : Nat} {ob o : AObj} (h : σ[r]? = some ob) : (σ.set r o).getD r' .free = if r' = r then o else σ.getD r' .free := by
  have hl : r < σ.length := (List.getElem?_eq_some_iff.1 h).1
  rw [List.getD_eq_getElem?_getD, List.getD_eq_getElem?_getD, List.getElem?_set]
  by_cases e : r = r'
  · subst e; simp [hl]
  · rw [if_neg e, if_neg (fun e' => e e'.symm)]

theorem obj_set {σ : List AObj} {r r' : Nat} {ob o : AObj} (hr : r < 64) (h : σ[r]? = some ob) (h1 : ob.isPool = false) (h2 : o.isPool = false) : objAt (σ.set r o) r' = if r' = r then o else objAt σ r' := by
  by_cases hl : r' < 64
  · rw [objAt_low hl, objAt_low hl]; exact getD_set h
  · unfold objAt
    rw [if_neg hl, if_neg hl, if_neg (fun e => hl (by rw [e]; exact hr)), getD_set h]
    by_cases e : r' % 64 = r
    · rw [if_pos e, e, List.getD_eq_getElem?_getD, h, elemAt_not h2]
      exact (elemAt_not h1 _).symm
    · rw [if_neg e]

theorem at_arr {s : Sh} (n m : Nat) {p : Path} {z : Sh} {o : Nat} (h : (Sh.arr s n).at p = some (z, o)) : ∃ z', (Sh.arr s m).at p = some (z', o) := by
  cases p with
  | nil => simp only [Sh.at, Option.some.injEq, Prod.mk.injEq] at h ⊢; exact ⟨_, rfl, h.2⟩
  | cons st p => cases st <;> simp only [Sh.at] at h ⊢ <;> first | cases h | exact ⟨z, h⟩

/-- What lies behind a reference. -/
theorem ptr_at {x : Ctx} {r g : Nat} {p : Path} {u : Value} (M : Mem x) {ob : AObj} (ho : x.obj r = ob) {get : Nat → Option AObj} (hg : get r = some ob) {R : Type} {k : AVal → Option R} {z : R}
    (hk : rootK get r g k = some z) (hv : (AVal.ptr r g p).V x u) :
    ∃ b, k b = some z ∧ b.flat = true ∧ ∃ blk off0 c e, x.μ r = some ⟨blk, off0, none⟩ ∧ x.h blk = some (.cells c e (0, 0)) ∧
      (∃ pre cs post, c.toList = pre ++ cs ++ post ∧ pre.length = off0 ∧ b.C x cs) ∧ ∃ s o, b.sh.at p = some (s, o) ∧ u = .pointer (some ⟨blk, off0 + o, none⟩) := by
  have hrel := M.objs r
  rw [ho] at hrel
  unfold rootK at hk
  rw [hg] at hk
  obtain ⟨c0, hc0, _, hp⟩ := (show (AVal.ptr r g p).C x [u] from hv)
  simp only [List.cons.injEq, and_true] at hc0
  subst hc0
  unfold PtrRel at hp
  rw [ho] at hp
  cases ob with
  | box b =>
    obtain ⟨blk, c, e, h1, h2, h3, hf⟩ := hrel
    obtain ⟨a, s, o, ha, hat, hu⟩ := hp
    rw [h1] at ha; cases ha
    exact ⟨b, hk, hf, blk, 0, c, e, h1, h2, ⟨[], c.toList, [], by simp, rfl, h3⟩, s, o, hat, hu⟩
  | arr g' τ xs =>
    simp only at hk
    cases hgg : Nat.beq g g' with
    | false => rw [hgg] at hk; cases hk
    | true =>
      rw [hgg] at hk
      obtain ⟨a, s, o, ha, hat, hu⟩ := hp.2 (Nat.eq_of_beq_eq_true hgg)
      rcases hrel with ⟨h1, _⟩ | ⟨blk, off0, c, e, css, h1, h2, h3, pre, post, h4, h5⟩
      · rw [h1] at ha; cases ha
      · rw [h1] at ha; cases ha
        obtain ⟨s', hat'⟩ := at_arr 0 xs.length hat
        exact ⟨_, hk, rfl, blk, off0, c, e, h1, h2, ⟨pre, css.flatten, post, h4, h5, rfl, css, rfl, h3⟩, s', o, hat', hu⟩
  | map K V m bs clk => simp at hk
  | iter v s l => simp at hk
  | vmap K m => simp at hk
  | pool t xs => simp at hk
  | dead => simp at hk
  | free => simp at hk

theorem isAs_size {d : TD} {u : AVal} (h : d.isAs u = true) : d.size = u.sh.size ∧ d.und.agg = u.agg := by
  unfold TD.isAs at h
  rw [Bool.and_eq_true] at h
  exact ⟨Nat.eq_of_beq_eq_true h.1, by simpa using h.2⟩

theorem cond_some {R : Type} {c : Bool} {y : Option R} {z : R} (h : (bif c then y else none) = some z) : c = true ∧ y = some z := by
  cases c with
  | false => cases h
  | true => exact ⟨rfl, h⟩

section
variable {P : Program} {T : Tbl} {ρ : Operand → Option AVal} {get : Nat → Option AObj} {a : Act} {w : World} {x : Ctx} {R : Type}

theorem agg_one {x : Ctx} {u : AVal} {cs : List Value} (h : u.C x cs) (ha : u.agg = false) (hf : u.flat = true) : cs.length = 1 := by
  rw [AVal.C.length _ _ h]
  cases u with
  | dat p t d => cases t <;> first | rfl | cases ha
  | pair a b => cases ha
  | one a => cases ha
  | tup vs => cases hf
  | nil => cases hf
  | cons a b => cases hf
  | _ => rfl

theorem flat_getK : ∀ (p : Path) (v v' : AVal), v.flat = true → v.getK p some = some v' → v'.flat = true := by
  intro p
  induction p with
  | nil => intro v v' hf e; unfold AVal.getK at e; cases e; exact hf
  | cons st p ih =>
    intro v v' hf e
    unfold AVal.getK at e
    split at e <;> try cases e
    all_goals (rename_i hst; try cases hst)
    all_goals first
      | exact ih _ _ rfl e
      | (split at e
         · exact ih _ _ rfl e
         · cases e)
      | (simp only [AVal.flat, Bool.and_eq_true] at hf; exact ih _ _ hf.1 e)
      | (simp only [AVal.flat, Bool.and_eq_true] at hf; exact ih _ _ hf.2 e)
      | (simp only [AVal.flat] at hf; exact ih _ _ hf e)

theorem heap_at (H : Meets P T ρ get a w x) {b : Nat} {o : Obj} (h : x.h b = some o) : w.heap[b]? = some o := by
  have := H.h ▸ h; exact this

theorem actLoad_ok (H : Meets P T ρ get a w x) {o : Oper} {t : TypeId} {ad : Operand} (ho : o.op = .load t ad) {v : AVal} (hv : v.V x (a.eval ad)) {k : AVal → Ups → Option R} {z : R}
    (hk : actLoad T get t v k = some z) : ∃ u ups, k u ups = some z ∧ ActOk P o a w x u ups := by
  unfold actLoad at hk
  split at hk
  case h_2 => cases hk
  rename_i d hd
  split at hk
  · rename_i r g p
    cases hg : get r with
    | none => unfold rootK at hk; rw [hg] at hk; cases hk
    | some ob =>
      obtain ⟨b, hb, hbf, blk, off0, c, e, h1, h2, ⟨pre, cs, post, h3, h4, h5⟩, s, of, hat, hu⟩ := ptr_at H.mem (obj_of_get H.mem (H.obj r ob hg)) hg hk hv
      obtain ⟨u, hget, hk2⟩ := getK_inv p b _ z hb
      obtain ⟨hd2, hk3⟩ := cond_some hk2
      obtain ⟨hsz, hag⟩ := isAs_size hd2
      obtain ⟨of', hat', pre', mid, post', rfl, hp', hm⟩ := getK_sound p b u cs h5 hget
      rw [hat] at hat'; cases hat'
      have hfl : u.flat = true := flat_getK p b u hbf hget
      refine ⟨u, [], hk3, ActOk.value (u := valueOf u.agg mid) H.mem H.h ?_ (V_valueOf hm fun ha => agg_one hm ha hfl)⟩
      have hl := run_loadVar_at H.tbl hd (heap_at H h2) (o := off0 + of) (mid := mid) (fun j v hv => by
        have := all2_drop_get (c := c) (pre := pre ++ pre') (mid := mid) (post := post' ++ post) (by rw [h3]; simp) j hv
        simpa [h4, hp'] using this) (by rw [hsz, AVal.C.length _ _ hm]) (fun hf => agg_one hm (hag ▸ hf) hfl)
      simp only [execOp, ho, Instr.loadAt, Instr.sureAddr, hu, Sem.run_bind, Sem.run_pure, Result.andThen_ok, hl, hag]
  · rename_i own τ y
    obtain ⟨hd2, hk3⟩ := cond_some hk
    obtain ⟨hsz, hag⟩ := isAs_size hd2
    obtain ⟨b, of, ds, hu, h1, ⟨c, e, fr, h2, h3⟩, h4⟩ := (show (AVal.ref own τ y).C x [a.eval ad] from hv)
    simp only [List.cons.injEq, and_true] at hu
    have hm : (AVal.dat own τ y).C x ds := h4
    refine ⟨_, [], hk3, ActOk.value (u := valueOf (AVal.dat own τ y).agg ds) H.mem H.h ?_ (V_valueOf hm fun ha => agg_one hm ha rfl)⟩
    have hl := run_loadVar_at H.tbl hd (heap_at H h2) (o := of) (mid := ds) h3 (by rw [hsz, AVal.C.length _ _ hm]) (fun hf => agg_one hm (hag ▸ hf) rfl)
    simp only [execOp, ho, Instr.loadAt, Instr.sureAddr, hu, Sem.run_bind, Sem.run_pure, Result.andThen_ok, hl, hag]
  · cases hk

/-- What is written at a path does not hang on what is done with it. -/
theorem setK_inv {R : Type} : ∀ (p : Path) (v u : AVal) (k : AVal → Option R) (r : R), v.setK p u k = some r → ∃ v', v.setK p u some = some v' ∧ k v' = some r := by
  suffices G : ∀ (p : Path) (R : Type) (v u : AVal) (k : AVal → Option R) (r : R), v.setK p u k = some r → ∃ v', k v' = some r ∧ ∀ (R' : Type) (k' : AVal → Option R'), v.setK p u k' = k' v' by
    intro p v u k r e
    obtain ⟨v', h1, h2⟩ := G p R v u k r e
    exact ⟨v', h2 AVal some, h1⟩
  intro p
  induction p with
  | nil =>
    intro R v u k r e
    unfold AVal.setK at e
    split at e
    · rename_i h; exact ⟨u, e, fun R' k' => by unfold AVal.setK; rw [if_pos h]⟩
    · cases e
  | cons st p ih =>
    intro R v u k r e
    unfold AVal.setK at e
    split at e <;> try cases e
    all_goals (rename_i hst; try cases hst)
    all_goals first
      | (obtain ⟨y, hy, G⟩ := ih _ _ _ _ _ e
         exact ⟨_, hy, fun R' k' => by simp only [AVal.setK]; exact G _ _⟩)
      | (split at e
         · rename_i z hz
           obtain ⟨y, hy, G⟩ := ih _ _ _ _ _ e
           split at hy
           · rename_i q' t' y'
             cases hqq : (q' == _ || _ : Bool) with
             | false => rw [hqq] at hy; cases hy
             | true =>
             rw [hqq] at hy
             simp only [cond_true] at hy
             split at hy
             · rename_i ht
               exact ⟨_, hy, fun R' k' => by simp only [AVal.setK, hz]; rw [G]; simp only [hqq, cond_true, ht, dite_true]⟩
             · cases hy
           · cases hy
         · cases e)
end
end Go.Am

/- The abstract machine, sixth part: stores, new objects, addresses. -/
namespace Go.Am
section
variable {P : Program} {T : Tbl} {ρ : Operand → Option AVal} {get : Nat → Option AObj} {a : Act} {w : World} {x : Ctx} {R : Type}

theorem setRow_size (w : World) (b : Nat) (c : Array Value) : (w.setRow b c).heap.size = w.heap.size := by simp [World.setRow]

/-- The state behind a write into the block of object r. -/
def Ctx.wrote (x : Ctx) (blk : Nat) (o : Obj) (r : Nat) (ob : AObj) : Ctx :=
  { h := fun b => if b = blk then some o else x.h b, S := x.S, μ := x.μ, σ := x.σ.set r ob, at_ := x.at_, pl := x.pl }

theorem wrote_obj (M : Mem x) {blk : Nat} {o : Obj} {r r' : Nat} {ob ob0 : AObj} (h : x.σ[r]? = some ob0) (h1 : ob0.isPool = false) (h2 : ob.isPool = false) : (x.wrote blk o r ob).obj r' = if r' = r then ob else x.obj r' := obj_set (M.low h) h h1 h2

theorem upd0_wrote (M : Mem x) {blk : Nat} {c' : Array Value} {e : TypeId} {r : Nat} {ob0 ob : AObj} {of : Nat} (h0 : x.σ[r]? = some ob0) (n1 : ob0.isPool = false) (n2 : ob.isPool = false) (hl : ob0.live = true) (hμ : x.μ r = some ⟨blk, of, none⟩)
    (keep : Keeps x (x.wrote blk (.cells c' e (0, 0)) r ob) r) : Upd0 x (x.wrote blk (.cells c' e (0, 0)) r ob) r where
  S := rfl
  at_ := rfl
  pl := rfl
  low := M.low h0
  len := List.length_set
  obj := fun r' hr => by rw [wrote_obj M h0 n1 n2, if_neg hr]
  μ := fun r' hr => rfl
  h := fun b hs hne => if_neg fun e => hne _ (by rw [obj_of_get M h0]; exact hl) hμ e.symm
  keep := keep
  blk := fun a' hl' ha' => .inl ⟨a', by rw [obj_of_get M h0]; exact hl, ha', rfl⟩

theorem actStore_ok (H : Meets P T ρ get a w x) {o : Oper} {t : TypeId} {ad vo : Operand} (ho : o.op = .store t ad vo) {v u : AVal} (hv : v.V x (a.eval ad)) (hu : u.V x (a.eval vo)) {k : AVal → Ups → Option R} {z : R}
    (hk : actStore T get t v u k = some z) : ∃ u ups, k u ups = some z ∧ ActOk P o a w x u ups := by
  unfold actStore at hk
  split at hk
  case h_2 => cases hk
  rename_i d hd
  split at hk
  case h_2 => cases hk
  rename_i r g p
  obtain ⟨hd2, hk⟩ := cond_some hk
  rw [Bool.and_eq_true] at hd2
  obtain ⟨hsz, hag⟩ := isAs_size hd2.1
  obtain ⟨hC, _, _⟩ := V_inv hd2.2 hu
  have hlen := AVal.C.length _ _ hC
  cases hg : get r with
  | none => rw [hg] at hk; cases hk
  | some ob =>
    have h0 := H.obj r ob hg
    have hobj := obj_of_get H.mem h0
    rw [hg] at hk
    -- what all ways have in common
    have common : ∀ (b b' : AVal) (ob' : AObj) (blk off0 : Nat) (c : Array Value) (e : TypeId) (pre cs post : List Value) (s : Sh) (of : Nat), ob.isPool = false → ob'.isPool = false → ob.live = true → x.μ r = some ⟨blk, off0, none⟩ → x.h blk = some (.cells c e (0, 0)) →
        c.toList = pre ++ cs ++ post → pre.length = off0 → b.C x cs → b.sh.at p = some (s, of) → a.eval ad = .pointer (some ⟨blk, off0 + of, none⟩) → b.setK p u some = some b' →
        (∀ c' : Array Value, c'.size = c.size → Keeps x (x.wrote blk (.cells c' e (0, 0)) r ob') r) →
        (∀ cs' : List Value, b'.C x cs' → b'.sh = b.sh → (∀ v ∈ [u], v.flat = true) → ∀ x' : Ctx, x' = x.wrote blk (.cells (pre ++ cs' ++ post).toArray e (0, 0)) r ob' → b'.C x' cs' → (HS x x') → (∀ r, Keeps x x' r) → ObjRel x' r ob') →
        ActOk P o a w x (.tup .nil) [(r, ob')] := by
      intro b b' ob' blk off0 c e pre cs post s of hn1 hn2 hl h1 h2 h3 h4 h5 hat hu' hset hkeep hrel next Q hnext
      obtain ⟨hsh, of', hat', pre', mid, post', rfl, hp', hml, hC'⟩ := setK_sound p b u b' cs h5 hset _ hC
      rw [hat] at hat'; cases hat'
      let c' : Array Value := (pre ++ (pre' ++ (a.eval vo).cells.toList ++ post') ++ post).toArray
      have hst := run_storeVar_at H.tbl hd (heap_at H h2) (pre := pre ++ pre') (mid := mid) (post := post' ++ post) (by rw [h3]; simp) (u := a.eval vo)
        (by rw [hsz, hlen]) (by rw [hml]) (AVal.C.oneCell _ _ hC hd2.2)
      have hc' : (pre ++ pre' ++ (a.eval vo).cells.toList ++ (post' ++ post)).toArray = c' := by simp [c']
      rw [hc'] at hst
      have ha : (⟨blk, (pre ++ pre').length, none⟩ : Addr) = ⟨blk, off0 + of, none⟩ := by simp [h4, hp']
      rw [ha] at hst
      have hcs : c'.size = c.size := by
        have e1 : c.size = pre.length + (pre'.length + (mid.length + post'.length)) + post.length := by
          rw [← Array.length_toList, h3]; simp; omega
        rw [e1, hml]; simp [c']; omega
      have U0 := upd0_wrote (x := x) (ob := ob') H.mem h0 hn1 hn2 hl h1 (hkeep c' hcs)
      have U : Upd x (x.wrote blk (.cells c' e (0, 0)) r ob') r :=
        ⟨U0, by
          rw [wrote_obj H.mem h0 hn1 hn2, if_pos rfl]
          exact hrel _ hC' hsh (by simp [hd2.2]) _ rfl (hC'.mono (U0.hS H.mem) (U0.keeps H.mem)) (U0.hS H.mem) (U0.keeps H.mem)⟩
      have G : Goes x w (x.wrote blk (.cells c' e (0, 0)) r ob') (w.setRow blk c') := U.goes H.mem H.h (by
        funext b
        have := setRow_heap_eq (heap_at H h2) c' b
        rw [this]
        show (if b = blk then _ else x.h b) = _
        rw [H.h]) rfl rfl rfl (by rw [setRow_size]; exact Nat.le_refl _)
      unfold Oper.wp
      have hrun : (execOp a.eval o).run P w = .ok .skip (w.setRow blk c') := by
        simp only [execOp, ho, Instr.storeAt, Instr.sureAddr, hu', Sem.run_bind, Sem.run_pure, Result.andThen_ok, hst]
      rw [hrun, Oper.upon_skip]
      exact hnext undef _ _ G rfl (show (AVal.tup .nil).C _ [.tuple #[]] from ⟨[], rfl, rfl⟩)
    cases ob with
    | box b =>
      simp only at hk
      obtain ⟨b', hset, hk2⟩ := setK_inv _ _ _ _ _ hk
      obtain ⟨hf', hk3⟩ := cond_some hk2
      obtain ⟨b0, hb0, hbf, blk, off0, c, e, h1, h2, ⟨pre, cs, post, h3, h4, h5⟩, s, of, hat, hu'⟩ := ptr_at (k := some) (z := b) H.mem hobj hg (by unfold rootK; rw [hg]) hv
      cases hb0
      obtain ⟨hsh0, _⟩ := setK_sound p b u b' cs h5 hset _ hC
      refine ⟨_, _, hk3, common b b' (.box b') blk off0 c e pre cs post s of rfl rfl rfl h1 h2 h3 h4 h5 hat hu' hset (fun c' hcs => ?_) ?_⟩
      · refine ⟨fun g p c hp => ?_, fun g c hp => ?_, fun g lo len ex c hp => ?_, fun c hp => ?_⟩
        · unfold PtrRel at hp ⊢; rw [wrote_obj H.mem h0 rfl rfl, if_pos rfl]; rw [hobj] at hp; simp only [hsh0]; exact hp
        · unfold SlcRel; rw [wrote_obj H.mem h0 rfl rfl, if_pos rfl]; trivial
        · unfold SubRel; rw [wrote_obj H.mem h0 rfl rfl, if_pos rfl]; trivial
        · unfold MapRel; rw [wrote_obj H.mem h0 rfl rfl, if_pos rfl]; trivial
      · rintro cs' hc hsh _ x' rfl hC' _ _
        have hrel := H.mem.objs r
        rw [hobj] at hrel
        obtain ⟨blk2, c2, e2, k1, k2, k3, k4⟩ := hrel
        rw [h1] at k1; cases k1
        rw [h2] at k2; cases k2
        have hl1 := AVal.C.length _ _ k3
        have hl2 := AVal.C.length _ _ h5
        have hz : pre.length = 0 ∧ post.length = 0 := by
          rw [h3] at hl1; simp at hl1; omega
        have hp0 : pre = [] := List.length_eq_zero_iff.1 hz.1
        have hq0 : post = [] := List.length_eq_zero_iff.1 hz.2
        subst hp0; subst hq0
        exact ⟨blk, _, e, h1, if_pos rfl, by simpa using hC', hf'⟩
    | arr g' τ xs =>
      simp only at hk
      obtain ⟨hgg, hk⟩ := cond_some hk
      rw [Bool.and_eq_true] at hgg
      have hgg := hgg.1
      obtain ⟨b', hset, hk2⟩ := setK_inv _ _ _ _ _ hk
      split at hk2
      case h_2 => cases hk2
      rename_i n' τ' ys
      split at hk2
      case isFalse => cases hk2
      rename_i hτ
      subst hτ
      obtain ⟨b0, hb0, hbf, blk, off0, c, e, h1, h2, ⟨pre, cs, post, h3, h4, h5⟩, s, of, hat, hu'⟩ := ptr_at (k := some) (z := .dat true (.arr xs.length τ') xs) H.mem hobj hg (by unfold rootK; rw [hg]; simp [hgg]) hv
      cases hb0
      obtain ⟨hsh0, _, _, _, _, _, _, _, _, hyC⟩ := setK_sound p _ u _ cs h5 hset _ hC
      have hn : n' = xs.length := by simp only [AVal.sh, Ty.sh, Sh.arr.injEq] at hsh0; exact hsh0.2
      have hyl : ys.length = xs.length := hyC.1.trans hn
      refine ⟨_, _, hk2, common _ _ (.arr g' τ' ys) blk off0 c e pre cs post s of rfl rfl rfl h1 h2 h3 h4 h5 hat hu' hset (fun c' hcs => ?_) ?_⟩
      · refine ⟨fun g p c hp => ?_, fun g c1 hp => ?_, fun g lo len ex c1 hp => ?_, fun c1 hp => ?_⟩
        · unfold PtrRel at hp ⊢; rw [wrote_obj H.mem h0 rfl rfl, if_pos rfl]; rw [hobj] at hp; exact hp
        · unfold SlcRel at hp ⊢
          rw [wrote_obj H.mem h0 rfl rfl, if_pos rfl]; rw [hobj] at hp
          refine ⟨hp.1, fun hgg' => ?_⟩
          have hp := hp.2 hgg'
          simp only [Ctx.wrote, h1] at hp ⊢
          obtain ⟨cap, e1, e2, e3⟩ := hp
          refine ⟨cap, by rw [hyl]; exact e1, by rw [hyl]; exact e2, ?_⟩
          intro c2 e2' fr2 h
          have h := (show (if blk = blk then some (Obj.cells c' e (0, 0)) else x.h blk) = _ from h)
          rw [if_pos rfl] at h; cases h
          have := e3 c e (0, 0) h2
          rw [hcs]; exact this
        · unfold SubRel at hp ⊢
          rw [wrote_obj H.mem h0 rfl rfl, if_pos rfl]; rw [hobj] at hp
          refine ⟨hp.1, fun hgg' => ?_⟩
          obtain ⟨k1, base, cap, k2, k3, k4, k5, k6, k7⟩ := hp.2 hgg'
          refine ⟨by rw [hyl]; exact k1, base, cap, k2, k3, k4, by rw [hyl]; exact k5, k6, fun b hb hpc => ?_⟩
          obtain ⟨a1, ha1, e1, hroom⟩ := k7 b hb hpc
          refine ⟨a1, ha1, e1, ?_⟩
          rw [h1] at ha1; cases ha1
          intro c2 e2' fr2 h
          have h := (show (if blk = blk then some (Obj.cells c' e (0, 0)) else x.h blk) = _ from h)
          rw [if_pos rfl] at h; cases h
          have := hroom c e (0, 0) h2
          rw [hcs]; exact this
        · unfold MapRel; rw [wrote_obj H.mem h0 rfl rfl, if_pos rfl]; trivial
      · rintro cs' hc hsh _ x' rfl hC' _ _
        obtain ⟨hy1, css, rfl, A⟩ := hC'
        exact .inr ⟨blk, off0, _, e, css, h1, if_pos rfl, A, pre, post, by simp, h4⟩
    | map K V m bs clk => simp at hk
    | iter v s l => simp at hk
    | vmap K m => simp at hk
    | pool t xs => simp at hk
    | dead => simp at hk
    | free => simp at hk

/-- The state behind a new block, in which object r lies now. -/
def Ctx.made (x : Ctx) (blk : Nat) (o : Obj) (r : Nat) (ob : AObj) : Ctx :=
  { h := fun b => if b = blk then some o else x.h b, S := x.S, μ := fun r' => if r' = r then some ⟨blk, 0, none⟩ else x.μ r', σ := x.σ.set r ob, at_ := x.at_, pl := x.pl }

theorem heap_alloc (w : World) (o : Obj) : (fun b => (w.alloc o).heap[b]?) = fun b => if b = w.heap.size then some o else w.heap[b]? := by
  funext b
  show (w.heap.push o)[b]? = _
  rw [Array.getElem?_push]

theorem goes_made (M : Mem x) (hh : x.h = fun b => w.heap[b]?) {r : Nat} {ob : AObj} (h0 : x.σ[r]? = some .free) (n2 : ob.isPool = false) (o : Obj)
    (hrel : HS x (x.made w.heap.size o r ob) → (∀ r', Keeps x (x.made w.heap.size o r ob) r') → ObjRel (x.made w.heap.size o r ob) r ob) :
    Goes x w (x.made w.heap.size o r ob) (w.alloc o) := by
  have hnew : (x.h w.heap.size).isSome = false := by rw [hh]; simp
  have hob : ∀ r', (x.made w.heap.size o r ob).obj r' = if r' = r then ob else x.obj r' := fun r' => obj_set (M.low h0) h0 rfl n2
  have hfree : x.obj r = .free := obj_of_get M h0
  have U0 : Upd0 x (x.made w.heap.size o r ob) r := {
    S := rfl
    at_ := rfl
    pl := rfl
    low := M.low h0
    len := List.length_set
    obj := fun r' hr => by rw [hob, if_neg hr]
    μ := fun r' hr => if_neg hr
    h := fun b hs _ => if_neg fun e => by rw [e, hnew] at hs; cases hs
    keep := .ofFree hfree
    blk := fun a' _ ha' => .inr (by
      have h := (show (if r = r then some (⟨w.heap.size, 0, none⟩ : Addr) else x.μ r) = some a' from ha')
      rw [if_pos rfl] at h; cases h; exact hnew) }
  have U : Upd x (x.made w.heap.size o r ob) r := ⟨U0, by rw [hob, if_pos rfl]; exact hrel (U0.hS M) (U0.keeps M)⟩
  refine U.goes M hh ?_ rfl rfl rfl (by show _ ≤ (w.heap.push _).size; simp)
  rw [heap_alloc]
  funext b
  show (if b = _ then _ else x.h b) = _
  rw [hh]

theorem run_newVar (P : Program) (w : World) (t : TypeId) (v : Value) : (newVar t v).run P w = .ok ⟨w.heap.size, 0, none⟩ (w.alloc (.cells v.cells t (0, 0))) := rfl

theorem made_obj (M : Mem x) {r r' : Nat} {ob ob0 : AObj} {blk : Nat} {o : Obj} (h0 : x.σ[r]? = some ob0) (h1 : ob0.isPool = false) (h2 : ob.isPool = false) : (x.made blk o r ob).obj r' = if r' = r then ob else x.obj r' := obj_set (M.low h0) h0 h1 h2

/-- A new variable that holds v. -/
theorem box_ok (H : Meets P T ρ get a w x) {o : Oper} {base : Nat} {v : AVal} {u : Value} {t : TypeId} (hg : get base = some .free) (hf : v.flat = true) (hv : v.V x u)
    (hrun : (execOp a.eval o).run P w = .ok (.value (.pointer (some ⟨w.heap.size, 0, none⟩))) (w.alloc (.cells u.cells t (0, 0)))) : ActOk P o a w x (.ptr base 0 []) [(base, .box v)] := by
  intro next Q hnext
  have h0 := H.obj base _ hg
  obtain ⟨hC, _, _⟩ := V_inv hf hv
  have G := goes_made (ob := .box v) H.mem H.h h0 rfl (.cells u.cells t (0, 0)) (fun hs hk => ⟨w.heap.size, u.cells, t, if_pos rfl, if_pos rfl, hC.mono hs hk, hf⟩)
  unfold Oper.wp
  rw [hrun, Oper.upon_value]
  refine hnext _ _ _ G rfl (show (AVal.ptr base 0 []).C _ _ from ⟨_, rfl, rfl, ?_⟩)
  unfold PtrRel
  rw [made_obj H.mem h0 rfl rfl, if_pos rfl]
  exact ⟨_, v.sh, 0, if_pos rfl, by unfold Sh.at; rfl, rfl⟩

theorem actAlloc_box (H : Meets P T ρ get a w x) {o : Oper} {base : Nat} {t : TypeId} {vo : Operand} (ho : o.op = .box t vo) {v : AVal} (hv : v.V x (a.eval vo)) {k : AVal → Ups → Option R} {z : R}
    (hk : actAlloc get base v k = some z) : ∃ u ups, k u ups = some z ∧ ActOk P o a w x u ups := by
  unfold actAlloc at hk
  split at hk
  · rename_i hg
    obtain ⟨hf, hk⟩ := cond_some hk
    refine ⟨_, _, hk, box_ok H (t := t) hg hf hv ?_⟩
    simp only [execOp, ho, Instr.box, Sem.run_bind, run_newVar, Result.andThen_ok, Sem.run_pure]
  · cases hk

theorem actAlloc_zero (H : Meets P T ρ get a w x) {o : Oper} {base : Nat} {t : TypeId} (ho : o.op = .alloc t) {d : TD} (hd : T t = some d) {k : AVal → Ups → Option R} {z : R}
    (hk : actAlloc get base d.zero k = some z) : ∃ u ups, k u ups = some z ∧ ActOk P o a w x u ups := by
  unfold actAlloc at hk
  split at hk
  · rename_i hg
    obtain ⟨hf, hk⟩ := cond_some hk
    obtain ⟨u, hz, hv⟩ := (H.tbl t d hd).zeroValue (w := w)
    refine ⟨_, _, hk, box_ok H (t := t) hg hf (hv x) ?_⟩
    simp only [execOp, ho, Instr.alloc, Sem.run_bind, hz, run_newVar, Result.andThen_ok, Sem.run_pure]
  · cases hk

theorem leads_at {s : Sh} {p : Path} {off size : Nat} (h : s.leads p off size = true) : ∃ s', s.at p = some (s', off) ∧ s'.size = size := by
  unfold Sh.leads at h
  split at h
  · rename_i s' o' he
    rw [Bool.and_eq_true] at h
    obtain rfl := Nat.eq_of_beq_eq_true h.1
    exact ⟨s', he, Nat.eq_of_beq_eq_true h.2⟩
  · cases h

theorem at_append : ∀ (p q : Path) (s s' s'' : Sh) (o o' : Nat), s.at p = some (s', o) → s'.at q = some (s'', o') → s.at (p ++ q) = some (s'', o + o') := by
  intro p
  induction p with
  | nil => intro q s s' s'' o o' h h'; simp only [Sh.at, Option.some.injEq, Prod.mk.injEq] at h; obtain ⟨rfl, rfl⟩ := h; simpa using h'
  | cons st p ih =>
    intro q s s' s'' o o' h h'
    rw [List.cons_append]
    unfold Sh.at at h ⊢
    split at h <;> try cases h
    all_goals (rename_i hst; try cases hst)
    · exact ih q _ _ _ _ _ h h'
    · split at h
      · rename_i he; cases h; simp only [ih q _ _ _ _ _ he h', Nat.add_assoc]
      · cases h
    · exact ih q _ _ _ _ _ h h'
    · split at h
      · rename_i he; cases h; simp only [ih q _ _ _ _ _ he h', Nat.add_assoc]
      · cases h

/-- A pointer to a part of what a pointer points to. -/
theorem ptr_part {r g : Nat} {p q : Path} {u : Value} {ob : AObj} (hobj : x.obj r = ob) (hv : (AVal.ptr r g p).V x u) {s s' s'' : Sh} {o' off : Nat} (hs : shapeOf ob g = some s) (hp : s.at p = some (s', o')) (hq : s'.at q = some (s'', off)) :
    ∃ b o, u = .pointer (some ⟨b, o, none⟩) ∧ (AVal.ptr r g (p ++ q)).V x (.pointer (some ⟨b, o + off, none⟩)) := by
  obtain ⟨c0, hc0, _, hr⟩ := (show (AVal.ptr r g p).C x [u] from hv)
  simp only [List.cons.injEq, and_true] at hc0
  subst hc0
  unfold PtrRel at hr
  rw [hobj] at hr
  cases ob with
  | box v =>
    simp only [shapeOf, Option.some.injEq] at hs
    subst hs
    obtain ⟨a, s1, o1, h1, h2, h3⟩ := hr
    rw [hp] at h2; cases h2
    refine ⟨a.block, a.off + o', h3, show (AVal.ptr r g (p ++ q)).C x _ from ⟨_, rfl, rfl, ?_⟩⟩
    unfold PtrRel; rw [hobj]
    exact ⟨a, s'', o' + off, h1, at_append p q _ _ _ _ _ hp hq, by simp [ptrTo, Nat.add_assoc]⟩
  | arr g' τ xs =>
    simp only [shapeOf] at hs
    obtain ⟨hgg, hs⟩ := cond_some hs
    cases hs
    obtain ⟨a, s1, o1, h1, h2, h3⟩ := hr.2 (Nat.eq_of_beq_eq_true hgg)
    rw [hp] at h2; cases h2
    refine ⟨a.block, a.off + o', h3, show (AVal.ptr r g (p ++ q)).C x _ from ⟨_, rfl, rfl, ?_⟩⟩
    unfold PtrRel; rw [hobj]
    exact ⟨hr.1, fun _ => ⟨a, s'', o' + off, h1, at_append p q _ _ _ _ _ hp hq, by simp [ptrTo, Nat.add_assoc]⟩⟩
  | map K V m bs clk => cases hs
  | iter v s l => cases hs
  | vmap K m => cases hs
  | pool t xs => cases hs
  | dead => cases hs
  | free => cases hs

theorem field_of {fs : List (Nat × TypeId)} {fields : Array Field} (h : fields.toList.map (fun f => (f.offset, f.type)) = fs) {j off : Nat} {ft : TypeId} (hj : fs[j]? = some (off, ft)) :
    ∃ f, fields[j]? = some f ∧ f.offset = off ∧ f.type = ft := by
  subst h
  rw [List.getElem?_map] at hj
  cases hf : fields.toList[j]? with
  | none => rw [hf] at hj; cases hj
  | some f => rw [hf] at hj; cases hj; exact ⟨f, by simpa using hf, rfl, rfl⟩

theorem actFieldAddr_ok (H : Meets P T ρ get a w x) {o : Oper} {t : TypeId} {j : Nat} {ad : Operand} (ho : o.op = .fieldAddr t ad j) {v : AVal} (hv : v.V x (a.eval ad)) {k : AVal → Ups → Option R} {z : R}
    (hk : actFieldAddr T get t v j k = some z) : ∃ u ups, k u ups = some z ∧ ActOk P o a w x u ups := by
  unfold actFieldAddr at hk
  split at hk
  case h_2 => cases hk
  rename_i fs size bytes zero cmp hd
  split at hk
  case h_2 => cases hk
  rename_i off ft hj
  split at hk
  case h_2 => cases hk
  rename_i fd hfd
  cases hz : Nat.beq fd.size 0 with
  | true => rw [hz] at hk; cases hk
  | false =>
    rw [hz] at hk
    simp only [cond_false] at hk
    obtain ⟨fields, hund, hfl, _⟩ := (show UndOk P t (.struct fs) from (H.tbl t _ hd).und)
    obtain ⟨f, hf1, hf2, hf3⟩ := field_of hfl hj
    have hsz : (sizeOf f.type).run P w = .ok fd.size w := by rw [hf3]; exact (H.tbl ft fd hfd).sizeOf
    have hz' : fd.size ≠ 0 := fun e => by rw [e] at hz; cases hz
    have hrun : ∀ b of, a.eval ad = .pointer (some ⟨b, of, none⟩) → (execOp a.eval o).run P w = .ok (.value (.pointer (some ⟨b, of + off, none⟩))) w := by
      intro b of hu
      simp only [execOp, ho, Instr.fieldAt, Sem.run_bind, run_underlying hund, Result.andThen_ok, hf1, Instr.sureAddr, hu, Sem.run_pure, fieldPlace, hsz]
      rw [if_neg hz']
      simp [hf2, add_mk]
    split at hk
    · rename_i r g p
      split at hk
      case h_2 => cases hk
      rename_i ob hg
      split at hk
      case h_2 => cases hk
      rename_i s hs
      split at hk
      case h_2 => cases hk
      rename_i s' o' hp
      obtain ⟨hl, hk⟩ := cond_some hk
      obtain ⟨s'', hq, _⟩ := leads_at hl
      obtain ⟨b, of, hu, hv'⟩ := ptr_part (obj_of_get H.mem (H.obj r ob hg)) hv hs hp hq
      exact ⟨_, _, hk, ActOk.value H.mem H.h (hrun b of hu) hv'⟩
    · rename_i own τ y
      obtain ⟨hl, hk⟩ := cond_some hk
      obtain ⟨s'', hq, _⟩ := leads_at hl
      obtain ⟨u, hget, hk2⟩ := getK_inv _ _ _ _ hk
      split at hk2
      case h_2 => cases hk2
      rename_i own' τ' y'
      obtain ⟨ho', hk2⟩ := cond_some hk2
      obtain rfl : own' = own := by simpa using ho'
      obtain ⟨b, of, ds, hu, h1, ⟨c, e, fr, h2, h3⟩, h4⟩ := (show (AVal.ref own' τ y).C x [a.eval ad] from hv)
      simp only [List.cons.injEq, and_true] at hu
      obtain ⟨of', hat, pre, mid, post, rfl, hp, hm⟩ := getK_sound _ (.dat own' τ y) _ ds h4 hget
      have : of' = off := by have h := hat.symm.trans hq; cases h; rfl
      subst this
      refine ⟨_, _, hk2, ActOk.value H.mem H.h (hrun b of hu) (show (AVal.ref own' τ' y').C x _ from ⟨b, of + of', mid, rfl, h1, ⟨c, e, fr, h2, fun j v hv => ?_⟩, hm⟩)⟩
      have := h3 (of' + j) v (by
        rw [List.append_assoc, List.getElem?_append_right (by omega), show of' + j - pre.length = j by omega, List.getElem?_append_left (List.getElem?_eq_some_iff.1 hv).1]; exact hv)
      rw [← this]; congr 1; omega
    · cases hk
end
end Go.Am
