/- The abstract machine, second part: its values, its objects, and how they lie in memory. -/
import Derived.Test.YtiecnmmffplgcaaAmA
import Derived.Laws.CopyRow
import Derived.Laws.Cells
namespace Go.Am

inductive Step where
  | fst | snd | one | idx (i : Nat)

abbrev Path := List Step

/-- A value: data; a struct of which a part is no data; references to objects (r: which; g: since how many appends). -/
inductive AVal where
  | dat (own : Bool) (t : Ty) (x : t.den)
  | pair (a b : AVal) | one (a : AVal)
  | ptr (r g : Nat) (p : Path) | nilp
  | ref (own : Bool) (t : Ty) (x : t.den)
  | slc (r g : Nat) | sub (r g lo len : Nat) (ex : Bool) | nils
  | map (r : Nat) | nilm
  | fn (f : FuncId) (caps : AVal) | nilf
  | iface (t : TypeId) (v : AVal) | nili
  | tup (vs : AVal) | nil | cons (a b : AVal)
  | junk

/-- An object that the call may write: a variable; what a slice's elements lie in; a map. -/
inductive AObj where
  | box (v : AVal)
  | arr (g : Nat) (t : Ty) (xs : List t.den)
  | map (K V : Ty) (m : List (K.den × V.den)) (bs : List Nat) (clk : Nat)
  | iter (v : AVal) (since : Nat) (seen : List Nat)
  | dead | free

def AObj.live : AObj → Bool
  | .dead | .free => false
  | _ => true

/-- A value's shape: how many cells, and how they are named. -/
inductive Sh where
  | leaf | unit | one (s : Sh) | pair (a b : Sh) | arr (s : Sh) (n : Nat)
  deriving DecidableEq

def Ty.sh : Ty → Sh
  | .int _ | .bool | .str | .slice _ => .leaf
  | .unit => .unit | .one t => .one t.sh | .pair a b => .pair a.sh b.sh | .arr n t => .arr t.sh n

def Sh.size : Sh → Nat
  | .leaf => 1 | .unit => 0 | .one s => s.size | .pair a b => a.size + b.size | .arr s n => n * s.size

def AVal.sh : AVal → Sh
  | .dat _ t _ => t.sh
  | .pair a b => .pair a.sh b.sh
  | .one a => .one a.sh
  | .nil => .unit
  | .cons _ b => .pair .leaf b.sh
  | _ => .leaf

def AVal.agg : AVal → Bool
  | .dat _ t _ => t.agg
  | .pair _ _ | .one _ => true
  | _ => false

theorem Ty.sh_size : ∀ t : Ty, t.sh.size = t.size := by
  intro t; induction t <;> simp_all [Ty.sh, Sh.size, Ty.size]

/-- Where a path leads, and how many cells behind the begin. -/
def Sh.at : Sh → Path → Option (Sh × Nat)
  | s, [] => some (s, 0)
  | .pair a _, .fst :: p => a.at p
  | .pair a b, .snd :: p => match b.at p with | some (s, o) => some (s, a.size + o) | none => none
  | .one s, .one :: p => s.at p
  | .arr s _, .idx i :: p => match s.at p with | some (s', o) => some (s', i * s.size + o) | none => none
  | _, _ => none

/-- Is there no slice inside? -/
def Ty.plain : Ty → Bool
  | .slice _ => false
  | .one t | .arr _ t => t.plain
  | .pair a b => a.plain && b.plain
  | _ => true

/-- Data in whose type there is no slice are anyone's. -/
def mkPair : AVal → AVal → AVal
  | .dat p a x, .dat q b y => bif p == q then .dat p (.pair a b) (x, y) else bif a.plain then .dat q (.pair a b) (x, y) else bif b.plain then .dat p (.pair a b) (x, y) else .pair (.dat p a x) (.dat q b y)
  | a, b => .pair a b

def mkOne : AVal → AVal
  | .dat p a x => .dat p (.one a) x
  | a => .one a

section
variable {R : Type}

def AVal.getK : AVal → Path → (AVal → Option R) → Option R
  | v, [], k => k v
  | .dat q (.pair a _) x, .fst :: p, k => AVal.getK (.dat q a x.1) p k
  | .dat q (.pair _ b) x, .snd :: p, k => AVal.getK (.dat q b x.2) p k
  | .dat q (.one t) x, .one :: p, k => AVal.getK (.dat q t x) p k
  | .dat q (.arr _ t) xs, .idx i :: p, k => match xs[i]? with | some x => AVal.getK (.dat q t x) p k | none => none
  | .pair a _, .fst :: p, k => AVal.getK a p k
  | .pair _ b, .snd :: p, k => AVal.getK b p k
  | .one a, .one :: p, k => AVal.getK a p k
  | _, _, _ => none

def AVal.setK : AVal → Path → AVal → (AVal → Option R) → Option R
  | v, [], u, k => if u.sh = v.sh then k u else none
  | .dat q (.pair a b) x, .fst :: p, u, k => AVal.setK (.dat q a x.1) p u fun y => k (mkPair y (.dat q b x.2))
  | .dat q (.pair a b) x, .snd :: p, u, k => AVal.setK (.dat q b x.2) p u fun y => k (mkPair (.dat q a x.1) y)
  | .dat q (.one t) x, .one :: p, u, k => AVal.setK (.dat q t x) p u fun y => k (mkOne y)
  | .dat q (.arr n t) xs, .idx i :: p, u, k => match xs[i]? with
    | some x => AVal.setK (.dat q t x) p u fun
      | .dat q' t' y => bif q' == q || t.plain then (if h : t' = t then k (.dat q (.arr n t) (xs.set i (h ▸ y))) else none) else none
      | _ => none
    | none => none
  | .pair a b, .fst :: p, u, k => AVal.setK a p u fun y => k (mkPair y b)
  | .pair a b, .snd :: p, u, k => AVal.setK b p u fun y => k (mkPair a y)
  | .one a, .one :: p, u, k => AVal.setK a p u fun y => k (mkOne y)
  | _, _, _, _ => none
end

def AVal.isTup : AVal → Bool
  | .tup _ => true
  | _ => false

/-- A function with what it has caught; or (of a tuple) with its first arguments. -/
def fnVal (f : FuncId) : Bool → List Value → Value
  | false, vs => .func (.func f) #[] vs.toArray
  | true, [.tuple us] => .func (.func f) us #[]
  | true, _ => .func (.func f) #[] #[]
theorem fnVal_is (f : FuncId) (b : Bool) (vs : List Value) : ∃ u v, fnVal f b vs = .func (.func f) u v := by
  unfold fnVal
  split <;> exact ⟨_, _, rfl⟩

/-- What the values of a state speak of: the memory, the blocks that no one writes, where each object lies. -/
structure Ctx where
  h : Heap
  S : Bool → Nat → Prop
  μ : Nat → Option Addr
  σ : List AObj

def Ctx.obj (x : Ctx) (r : Nat) : AObj := x.σ.getD r .free

def ptrTo (a : Addr) (o : Nat) : Value := .pointer (some ⟨a.block, a.off + o, none⟩)

def PtrRel (x : Ctx) (r g : Nat) (p : Path) (c : Value) : Prop :=
  match x.obj r with
  | .free => False
  | .box v => ∃ a s o, x.μ r = some a ∧ v.sh.at p = some (s, o) ∧ c = ptrTo a o
  | .arr g' t _ => g ≤ g' ∧ (g = g' → ∃ a s o, x.μ r = some a ∧ (Sh.arr t.sh 0).at p = some (s, o) ∧ c = ptrTo a o)
  | _ => True

/-- A slice's header over a row of cells: what lies there up to its capacity is its own. -/
def Roomy (h : Heap) (a : Addr) (cells : Nat) : Prop := ∀ c e fr, h a.block = some (.cells c e fr) → a.off + cells ≤ c.size

def SlcRel (x : Ctx) (r g : Nat) (c : Value) : Prop :=
  match x.obj r with
  | .free => False
  | .arr g' t xs => g ≤ g' ∧ (g = g' → match x.μ r with
    | none => ∃ b, c = .slice b 0 0
    | some a => ∃ cap, c = .slice (some a) xs.length cap ∧ xs.length ≤ cap ∧ Roomy x.h a (cap * t.size))
  | _ => True

/-- A part of a slice; ex: its capacity is its length, else it reaches as far as the slice does. -/
def SubRel (x : Ctx) (r g lo len : Nat) (ex : Bool) (c : Value) : Prop :=
  match x.obj r with
  | .free => False
  | .arr g' t xs => g ≤ g' ∧ (g = g' → lo + len ≤ xs.length ∧ ∃ base cap, c = .slice base len cap ∧ len ≤ cap ∧ (ex = true → cap = len) ∧ (ex = false → xs.length - lo ≤ cap) ∧ (base = none → cap = 0) ∧ ∀ b, base = some b → 0 < cap → ∃ a, x.μ r = some a ∧ b = a.add (lo * t.size))
  | _ => True

def MapRel (x : Ctx) (r : Nat) (c : Value) : Prop :=
  match x.obj r with
  | .free => False
  | .map _ _ _ _ _ => ∃ a, x.μ r = some a ∧ c = .map (some a.block)
  | .iter _ _ _ => ∃ a, x.μ r = some a ∧ c = .pointer (some ⟨a.block, 0, none⟩)
  | _ => True

/-- A value and the values of the model that it stands for, cell by cell (of 'cons', 'nil': value by value). -/
def AVal.C (x : Ctx) : AVal → List Value → Prop
  | .dat p t d, cs => t.Rel x.h (x.S p) d cs
  | .pair a b, cs => ∃ c1 c2, cs = c1 ++ c2 ∧ a.C x c1 ∧ b.C x c2
  | .one a, cs => a.C x cs
  | .ptr r g p, cs => ∃ c, cs = [c] ∧ c.oneCell' = true ∧ PtrRel x r g p c
  | .nilp, cs => cs = [.pointer none]
  | .ref p t d, cs => ∃ b o ds, cs = [.pointer (some ⟨b, o, none⟩)] ∧ x.S p b ∧ Holds x.h b o ds ∧ t.Rel x.h (x.S p) d ds
  | .slc r g, cs => ∃ c, cs = [c] ∧ c.oneCell' = true ∧ SlcRel x r g c
  | .sub r g lo len ex, cs => ∃ c, cs = [c] ∧ c.oneCell' = true ∧ SubRel x r g lo len ex c
  | .nils, cs => ∃ b, cs = [.slice b 0 0]
  | .map r, cs => ∃ c, cs = [c] ∧ c.oneCell' = true ∧ MapRel x r c
  | .nilm, cs => cs = [.map none]
  | .fn f caps, cs => ∃ vs, cs = [fnVal f caps.isTup vs] ∧ caps.C x vs
  | .nilf, cs => cs = [.nilFunc]
  | .iface t v, cs => ∃ u, cs = [.iface t u] ∧ if v.agg then ∃ c, u = .agg c ∧ v.C x c.toList else v.C x [u]
  | .nili, cs => cs = [.nilIface]
  | .tup vs, cs => ∃ us, cs = [.tuple us.toArray] ∧ vs.C x us
  | .nil, cs => cs = []
  | .cons a b, cs => ∃ u us, cs = u :: us ∧ (if a.agg then ∃ c, u = .agg c ∧ a.C x c.toList else a.C x [u]) ∧ b.C x us
  | .junk, cs => ∃ c, cs = [c] ∧ c.oneCell' = true

/-- A value as a slot holds it. -/
def AVal.V (x : Ctx) (v : AVal) (u : Value) : Prop := if v.agg then ∃ c, u = .agg c ∧ v.C x c.toList else v.C x [u]

/-- What stays said of object r, from one state to another. -/
structure Keeps (x x' : Ctx) (r : Nat) : Prop where
  ptr : ∀ g p c, PtrRel x r g p c → PtrRel x' r g p c
  slc : ∀ g c, SlcRel x r g c → SlcRel x' r g c
  sub : ∀ g lo len ex c, SubRel x r g lo len ex c → SubRel x' r g lo len ex c
  map : ∀ c, MapRel x r c → MapRel x' r c

theorem AVal.C.mono {x x' : Ctx} (hs : ∀ p b, x.S p b → x'.S p b ∧ x'.h b = x.h b) (hk : ∀ r, Keeps x x' r) :
    ∀ (v : AVal) (cs : List Value), v.C x cs → v.C x' cs := by
  intro v
  induction v with
  | dat p t d => exact fun cs h => h.congr (hs p)
  | pair a b iha ihb => rintro cs ⟨c1, c2, e, h1, h2⟩; exact ⟨c1, c2, e, iha _ h1, ihb _ h2⟩
  | one a ih => exact fun cs h => ih cs h
  | ptr r g p => rintro cs ⟨c, e, h1, h⟩; exact ⟨c, e, h1, (hk r).ptr _ _ _ h⟩
  | nilp => exact fun _ h => h
  | ref p t d => rintro cs ⟨b, o, ds, e, h1, h2, h3⟩; exact ⟨b, o, ds, e, (hs _ _ h1).1, h2.congr (hs _ _ h1).2, h3.congr (hs p)⟩
  | slc r g => rintro cs ⟨c, e, h1, h⟩; exact ⟨c, e, h1, (hk r).slc _ _ h⟩
  | sub r g lo len ex => rintro cs ⟨c, e, h1, h⟩; exact ⟨c, e, h1, (hk r).sub _ _ _ _ _ h⟩
  | nils => exact fun _ h => h
  | map r => rintro cs ⟨c, e, h1, h⟩; exact ⟨c, e, h1, (hk r).map _ h⟩
  | nilm => exact fun _ h => h
  | fn f caps ih => rintro cs ⟨vs, e, h⟩; exact ⟨vs, e, ih _ h⟩
  | nilf => exact fun _ h => h
  | iface t v ih =>
    rintro cs ⟨u, e, h⟩; refine ⟨u, e, ?_⟩
    by_cases hv : v.agg = true
    · rw [if_pos hv] at h ⊢; obtain ⟨c, e, h⟩ := h; exact ⟨c, e, ih _ h⟩
    · rw [if_neg hv] at h ⊢; exact ih _ h
  | nili => exact fun _ h => h
  | tup vs ih => rintro cs ⟨us, e, h⟩; exact ⟨us, e, ih _ h⟩
  | nil => exact fun _ h => h
  | cons a b iha ihb =>
    rintro cs ⟨u, us, e, h, h'⟩; refine ⟨u, us, e, ?_, ihb _ h'⟩
    by_cases hv : a.agg = true
    · rw [if_pos hv] at h ⊢; obtain ⟨c, e, h⟩ := h; exact ⟨c, e, iha _ h⟩
    · rw [if_neg hv] at h ⊢; exact iha _ h
  | junk => exact fun _ h => h

theorem AVal.V.mono {x x' : Ctx} (hs : ∀ p b, x.S p b → x'.S p b ∧ x'.h b = x.h b) (hk : ∀ r, Keeps x x' r) {v : AVal} {u : Value} (h : v.V x u) : v.V x' u := by
  unfold AVal.V at *
  by_cases hv : v.agg = true
  · rw [if_pos hv] at h ⊢; obtain ⟨c, e, h⟩ := h; exact ⟨c, e, AVal.C.mono hs hk _ _ h⟩
  · rw [if_neg hv] at h ⊢; exact AVal.C.mono hs hk _ _ h

theorem AVal.C.length {x : Ctx} : ∀ (v : AVal) (cs : List Value), v.C x cs → cs.length = v.sh.size := by
  intro v
  induction v with
  | dat p t d => intro cs h; rw [Ty.Rel.length _ _ _ h]; exact (Ty.sh_size t).symm
  | pair a b iha ihb => rintro cs ⟨c1, c2, rfl, h1, h2⟩; simp [AVal.sh, Sh.size, iha _ h1, ihb _ h2]
  | one a ih => exact fun cs h => ih cs h
  | ptr r g p => rintro cs ⟨c, rfl, h⟩; rfl
  | nilp => rintro _ rfl; rfl
  | ref p t d => rintro cs ⟨b, o, ds, rfl, _⟩; rfl
  | slc r g => rintro cs ⟨c, rfl, h⟩; rfl
  | sub r g lo len ex => rintro cs ⟨c, rfl, h⟩; rfl
  | nils => rintro cs ⟨b, rfl⟩; rfl
  | map r => rintro cs ⟨c, rfl, h⟩; rfl
  | nilm => rintro _ rfl; rfl
  | fn f caps ih => rintro cs ⟨vs, rfl, h⟩; rfl
  | nilf => rintro _ rfl; rfl
  | iface t v ih => rintro cs ⟨u, rfl, h⟩; rfl
  | nili => rintro _ rfl; rfl
  | tup vs ih => rintro cs ⟨us, rfl, h⟩; rfl
  | nil => rintro _ rfl; rfl
  | cons a b iha ihb => rintro cs ⟨u, us, rfl, h, h'⟩; simp [AVal.sh, Sh.size, ihb _ h']; omega
  | junk => rintro cs ⟨c, rfl, h⟩; rfl

/-- No list of values. -/
def AVal.flat : AVal → Bool
  | .pair a b => a.flat && b.flat
  | .one a => a.flat
  | .tup _ | .nil | .cons _ _ => false
  | _ => true

theorem Ty.Rel.oneCell {h : Heap} {S : Nat → Prop} : ∀ (t : Ty) (x : t.den) (cs : List Value), t.Rel h S x cs → ∀ v ∈ cs, v.oneCell' = true := by
  intro t
  induction t with
  | int k => rintro _ _ rfl v hv; simp at hv; subst hv; rfl
  | bool => rintro _ _ rfl v hv; simp at hv; subst hv; rfl
  | str => rintro _ _ rfl v hv; simp at hv; subst hv; rfl
  | unit => rintro _ _ rfl v hv; simp at hv
  | one t ih => exact fun x cs h => ih x cs h
  | pair a b iha ihb =>
    rintro x cs ⟨c1, c2, rfl, h1, h2⟩ v hv
    rcases List.mem_append.1 hv with hv | hv
    · exact iha _ _ h1 v hv
    · exact ihb _ _ h2 v hv
  | arr n t ih =>
    rintro xs cs ⟨hn, css, rfl, A⟩ v hv
    obtain ⟨c, hc, hv⟩ := List.mem_flatten.1 hv
    obtain ⟨i, hi, rfl⟩ := List.getElem_of_mem hc
    exact ih (xs[i]'(by rw [A.1]; exact hi)) _ (A.2 i _ _ (List.getElem?_eq_getElem _) (List.getElem?_eq_getElem _)) v hv
  | slice t ih => rintro xs cs ⟨base, len, cap, rfl, _⟩ v hv; simp at hv; subst hv; rfl

theorem AVal.C.oneCell {x : Ctx} : ∀ (v : AVal) (cs : List Value), v.C x cs → v.flat = true → ∀ c ∈ cs, c.oneCell' = true := by
  intro v
  induction v with
  | dat p t d => exact fun cs h _ => Ty.Rel.oneCell _ _ _ h
  | pair a b iha ihb =>
    rintro cs ⟨c1, c2, rfl, h1, h2⟩ hf v hv
    simp only [AVal.flat, Bool.and_eq_true] at hf
    rcases List.mem_append.1 hv with hv | hv
    · exact iha _ h1 hf.1 v hv
    · exact ihb _ h2 hf.2 v hv
  | one a ih => exact fun cs h hf => ih cs h hf
  | ptr r g p => rintro cs ⟨c, rfl, h, _⟩ _ v hv; simp at hv; subst hv; exact h
  | nilp => rintro _ rfl _ v hv; simp at hv; subst hv; rfl
  | ref p t d => rintro cs ⟨b, o, ds, rfl, _⟩ _ v hv; simp at hv; subst hv; rfl
  | slc r g => rintro cs ⟨c, rfl, h, _⟩ _ v hv; simp at hv; subst hv; exact h
  | sub r g lo len ex => rintro cs ⟨c, rfl, h, _⟩ _ v hv; simp at hv; subst hv; exact h
  | nils => rintro cs ⟨b, rfl⟩ _ v hv; simp at hv; subst hv; rfl
  | map r => rintro cs ⟨c, rfl, h, _⟩ _ v hv; simp at hv; subst hv; exact h
  | nilm => rintro _ rfl _ v hv; simp at hv; subst hv; rfl
  | fn f caps ih =>
    rintro cs ⟨vs, rfl, h⟩ _ v hv; simp at hv; subst hv
    obtain ⟨a, b, e⟩ := fnVal_is f caps.isTup vs
    rw [e]; rfl
  | nilf => rintro _ rfl _ v hv; simp at hv; subst hv; rfl
  | iface t v ih => rintro cs ⟨u, rfl, h⟩ _ v hv; simp at hv; subst hv; rfl
  | nili => rintro _ rfl _ v hv; simp at hv; subst hv; rfl
  | tup vs ih => intro cs _ hf; cases hf
  | nil => intro cs _ hf; cases hf
  | cons a b iha ihb => intro cs _ hf; cases hf
  | junk => rintro cs ⟨c, rfl, h⟩ _ v hv; simp at hv; subst hv; exact h

theorem Ty.Rel.ofPlain {h h' : Heap} {S S' : Nat → Prop} : ∀ (t : Ty) (x : t.den) (cs : List Value), t.plain = true → t.Rel h S x cs → t.Rel h' S' x cs := by
  intro t
  induction t with
  | int k => exact fun _ _ _ h => h
  | bool => exact fun _ _ _ h => h
  | str => exact fun _ _ _ h => h
  | unit => exact fun _ _ _ h => h
  | one t ih => exact fun x cs hp h => ih x cs hp h
  | pair a b iha ihb =>
    rintro x cs hp ⟨c1, c2, e, h1, h2⟩
    simp only [Ty.plain, Bool.and_eq_true] at hp
    exact ⟨c1, c2, e, iha _ _ hp.1 h1, ihb _ _ hp.2 h2⟩
  | arr n t ih => rintro xs cs hp ⟨hn, css, e, h1⟩; exact ⟨hn, css, e, h1.mono fun x y hxy => ih x y hp hxy⟩
  | slice t ih => intro x cs hp; cases hp

theorem mkPair_C {x : Ctx} {a b : AVal} {c1 c2 : List Value} (h1 : a.C x c1) (h2 : b.C x c2) : (mkPair a b).C x (c1 ++ c2) := by
  unfold mkPair; split
  · rename_i p ta da q tb db
    cases hpq : p == q with
    | true => obtain rfl : p = q := by simpa using hpq
              exact ⟨c1, c2, rfl, h1, h2⟩
    | false =>
      cases ha : ta.plain with
      | true => exact ⟨c1, c2, rfl, Ty.Rel.ofPlain ta da c1 ha h1, h2⟩
      | false =>
        cases hb : tb.plain with
        | true => exact ⟨c1, c2, rfl, h1, Ty.Rel.ofPlain tb db c2 hb h2⟩
        | false => exact ⟨c1, c2, rfl, h1, h2⟩
  · exact ⟨c1, c2, rfl, h1, h2⟩

theorem mkPair_sh (a b : AVal) : (mkPair a b).sh = .pair a.sh b.sh := by
  unfold mkPair; split
  · rename_i p ta da q tb db
    cases p == q <;> cases ta.plain <;> cases tb.plain <;> rfl
  · rfl
theorem mkPair_agg (a b : AVal) : (mkPair a b).agg = true := by
  unfold mkPair; split
  · rename_i p ta da q tb db
    cases p == q <;> cases ta.plain <;> cases tb.plain <;> rfl
  · rfl
theorem mkOne_C {x : Ctx} {a : AVal} {c : List Value} (h : a.C x c) : (mkOne a).C x c := by unfold mkOne; split <;> exact h
theorem mkOne_sh (a : AVal) : (mkOne a).sh = .one a.sh := by unfold mkOne; split <;> rfl
theorem mkOne_agg (a : AVal) : (mkOne a).agg = true := by unfold mkOne; split <;> rfl

/-- A list parted at an element of a flattened list. -/
theorem flatten_part {α : Type} {css : List (List α)} {n : Nat} (hn : ∀ c ∈ css, c.length = n) {i : Nat} {c : List α} (h : css[i]? = some c) :
    ∃ post, css.flatten = (css.take i).flatten ++ c ++ post ∧ (css.take i).flatten.length = i * n ∧ post = (css.drop (i + 1)).flatten := by
  obtain ⟨hi, rfl⟩ := List.getElem?_eq_some_iff.1 h
  refine ⟨_, ?_, ?_, rfl⟩
  · conv => lhs; rw [← List.take_append_drop i css, List.drop_eq_getElem_cons hi]
    rw [List.flatten_append, List.flatten_cons, List.append_assoc]
  · rw [flatten_length (n := n) (fun d hd => hn d (List.mem_of_mem_take hd)), List.length_take, Nat.min_eq_left (Nat.le_of_lt hi)]

theorem All2.get {α β : Type} {R : α → β → Prop} {xs : List α} {ys : List β} (H : All2 R xs ys) {i : Nat} {x : α} (h : xs[i]? = some x) : ∃ y, ys[i]? = some y ∧ R x y := by
  obtain ⟨hi, rfl⟩ := List.getElem?_eq_some_iff.1 h
  have hi' : i < ys.length := by rw [← H.1]; exact hi
  exact ⟨ys[i], List.getElem?_eq_getElem hi', H.2 i _ _ h (List.getElem?_eq_getElem hi')⟩

theorem All2.set {α β : Type} {R : α → β → Prop} {xs : List α} {ys : List β} (H : All2 R xs ys) (i : Nat) {x : α} {y : β} (h : R x y) : All2 R (xs.set i x) (ys.set i y) := by
  refine ⟨by simp [H.1], fun j u v hu hv => ?_⟩
  rw [List.getElem?_set] at hu hv
  by_cases e : i = j
  · subst e
    simp only [if_true] at hu hv
    split at hu
    · split at hv
      · cases hu; cases hv; exact h
      · cases hv
    · cases hu
  · rw [if_neg e] at hu hv; exact H.2 j u v hu hv

/-- What is read at a path does not hang on what is done with it. -/
theorem getK_inv {R : Type} : ∀ (p : Path) (v : AVal) (k : AVal → Option R) (r : R), v.getK p k = some r → ∃ v', v.getK p some = some v' ∧ k v' = some r := by
  intro p
  induction p with
  | nil => intro v k r e; exact ⟨v, by unfold AVal.getK; rfl, by unfold AVal.getK at e; exact e⟩
  | cons st p ih =>
    intro v k r e
    unfold AVal.getK at e
    split at e <;> try cases e
    all_goals (rename_i hst; try cases hst)
    all_goals simp only [AVal.getK]
    all_goals first
      | exact ih _ _ _ e
      | (split at e
         · exact ih _ _ _ e
         · cases e)

/-- Reading at a path. -/
theorem getK_sound {x : Ctx} : ∀ (p : Path) (v v' : AVal) (cs : List Value), v.C x cs → v.getK p some = some v' →
    ∃ o, v.sh.at p = some (v'.sh, o) ∧ ∃ pre mid post, cs = pre ++ mid ++ post ∧ pre.length = o ∧ v'.C x mid := by
  intro p
  induction p with
  | nil => intro v v' cs h e; simp only [AVal.getK, Option.some.injEq] at e; subst e; exact ⟨0, by unfold Sh.at; rfl, [], cs, [], by simp, rfl, h⟩
  | cons st p ih =>
    intro v v' cs h e
    unfold AVal.getK at e
    split at e <;> try cases e
    all_goals (rename_i hst; try cases hst)
    · obtain ⟨c1, c2, rfl, h1, h2⟩ := h
      obtain ⟨o, ho, pre, mid, post, rfl, hp, hm⟩ := ih _ _ _ (show (AVal.dat _ _ _).C x c1 from h1) e
      exact ⟨o, ho, pre, mid, post ++ c2, by simp, hp, hm⟩
    · obtain ⟨c1, c2, rfl, h1, h2⟩ := h
      obtain ⟨o, ho, pre, mid, post, rfl, hp, hm⟩ := ih _ _ _ (show (AVal.dat _ _ _).C x c2 from h2) e
      refine ⟨c1.length + o, ?_, c1 ++ pre, mid, post, by simp, by simp [hp], hm⟩
      simp only [AVal.sh, Ty.sh, Sh.at] at ho ⊢
      rw [ho, Ty.Rel.length _ _ _ h1, ← Ty.sh_size]
    · rename_i q t d
      exact ih (.dat q t d) _ _ h e
    · rename_i q n t xs i
      split at e
      · rename_i u hu
        obtain ⟨hn, css, rfl, A⟩ := h
        obtain ⟨c, hc, hr⟩ := A.get hu
        obtain ⟨post', e1, e2, _⟩ := flatten_part A.lengths hc
        obtain ⟨o, ho, pre, mid, post, rfl, hp, hm⟩ := ih _ _ _ (show (AVal.dat _ _ _).C x c from hr) e
        refine ⟨i * t.size + o, ?_, (css.take i).flatten ++ pre, mid, post ++ post', by rw [e1]; simp, by simp only [List.length_append]; omega, hm⟩
        simp only [AVal.sh, Ty.sh, Sh.at] at ho ⊢
        rw [ho, Ty.sh_size]
      · cases e
    · obtain ⟨c1, c2, rfl, h1, h2⟩ := h
      obtain ⟨o, ho, pre, mid, post, rfl, hp, hm⟩ := ih _ _ _ h1 e
      exact ⟨o, ho, pre, mid, post ++ c2, by simp, hp, hm⟩
    · obtain ⟨c1, c2, rfl, h1, h2⟩ := h
      obtain ⟨o, ho, pre, mid, post, rfl, hp, hm⟩ := ih _ _ _ h2 e
      refine ⟨c1.length + o, ?_, c1 ++ pre, mid, post, by simp, by simp [hp], hm⟩
      simp only [AVal.sh, Sh.at]
      rw [ho, AVal.C.length _ _ h1]
    · exact ih _ _ _ h e

/-- Writing at a path. -/
theorem setK_sound {x : Ctx} : ∀ (p : Path) (v u v' : AVal) (cs : List Value), v.C x cs → v.setK p u some = some v' → ∀ mid', u.C x mid' →
    v'.sh = v.sh ∧ ∃ o, v.sh.at p = some (u.sh, o) ∧ ∃ pre mid post, cs = pre ++ mid ++ post ∧ pre.length = o ∧ mid.length = mid'.length ∧ v'.C x (pre ++ mid' ++ post) := by
  suffices H : ∀ (p : Path) (R : Type) (v u : AVal) (k : AVal → Option R) (r : R) (cs : List Value), v.C x cs → v.setK p u k = some r → ∃ v', k v' = some r ∧ ∀ mid', u.C x mid' →
      v'.sh = v.sh ∧ ∃ o, v.sh.at p = some (u.sh, o) ∧ ∃ pre mid post, cs = pre ++ mid ++ post ∧ pre.length = o ∧ mid.length = mid'.length ∧ v'.C x (pre ++ mid' ++ post) by
    intro p v u v' cs h e
    obtain ⟨v'', e', h'⟩ := H p AVal v u some v' cs h e
    cases e'; exact h'
  intro p
  induction p with
  | nil =>
    intro R v u k r cs h e
    unfold AVal.setK at e
    split at e
    · rename_i hsh
      refine ⟨u, e, fun mid' hm => ⟨hsh, 0, by rw [hsh]; unfold Sh.at; rfl, [], cs, [], by simp, rfl, ?_, by simpa using hm⟩⟩
      rw [AVal.C.length _ _ h, AVal.C.length _ _ hm, hsh]
    · cases e
  | cons st p ih =>
    intro R v u k r cs h e
    unfold AVal.setK at e
    split at e <;> try cases e
    all_goals (rename_i hst; try cases hst)
    · rename_i q a b d
      obtain ⟨c1, c2, rfl, h1, h2⟩ := h
      obtain ⟨y, hy, H⟩ := ih _ (.dat q a d.1) _ _ _ c1 h1 e
      refine ⟨_, hy, fun mid' hm => ?_⟩
      obtain ⟨e1, o, ho, pre, mid, post, rfl, hp, hl, hc⟩ := H mid' hm
      exact ⟨by rw [mkPair_sh, e1]; rfl, o, ho, pre, mid, post ++ c2, by simp, hp, hl, by simpa using mkPair_C hc (show (AVal.dat q b d.2).C x c2 from h2)⟩
    · rename_i q a b d
      obtain ⟨c1, c2, rfl, h1, h2⟩ := h
      obtain ⟨y, hy, H⟩ := ih _ (.dat q b d.2) _ _ _ c2 h2 e
      refine ⟨_, hy, fun mid' hm => ?_⟩
      obtain ⟨e1, o, ho, pre, mid, post, rfl, hp, hl, hc⟩ := H mid' hm
      refine ⟨by rw [mkPair_sh, e1]; rfl, c1.length + o, ?_, c1 ++ pre, mid, post, by simp, by simp [hp], hl, by simpa using mkPair_C (show (AVal.dat q a d.1).C x c1 from h1) hc⟩
      simp only [AVal.sh, Ty.sh, Sh.at] at ho ⊢
      rw [ho, Ty.Rel.length _ _ _ h1, ← Ty.sh_size]
    · rename_i q t d
      obtain ⟨y, hy, H⟩ := ih _ (.dat q t d) _ _ _ cs h e
      refine ⟨_, hy, fun mid' hm => ?_⟩
      obtain ⟨e1, o, ho, pre, mid, post, rfl, hp, hl, hc⟩ := H mid' hm
      exact ⟨by rw [mkOne_sh, e1]; rfl, o, ho, pre, mid, post, rfl, hp, hl, mkOne_C hc⟩
    · rename_i q n t xs i
      split at e
      · rename_i z hz
        obtain ⟨hn, css, rfl, A⟩ := h
        obtain ⟨c, hc, hr⟩ := A.get hz
        obtain ⟨post', e1, e2, e3⟩ := flatten_part A.lengths hc
        obtain ⟨y, hy, H⟩ := ih _ (.dat q t z) _ _ _ c hr e
        split at hy
        · rename_i q' t' y
          cases hqq : (q' == q || t.plain) with
          | false => rw [hqq] at hy; cases hy
          | true =>
          rw [hqq] at hy
          simp only [cond_true] at hy
          split at hy
          · rename_i ht
            subst ht
            refine ⟨_, hy, fun mid' hm => ?_⟩
            obtain ⟨e4, o, ho, pre, mid, post, rfl, hp, hl, hcc⟩ := H mid' hm
            refine ⟨rfl, i * t'.size + o, ?_, (css.take i).flatten ++ pre, mid, post ++ post', by rw [e1]; simp, by simp only [List.length_append]; omega, hl, ?_⟩
            · simp only [AVal.sh, Ty.sh, Sh.at] at ho ⊢
              rw [ho, Ty.sh_size]
            · have hcc : t'.Rel x.h (x.S q) y (pre ++ mid' ++ post) := by
                rcases Bool.or_eq_true_iff.1 hqq with hq | hq
                · obtain rfl : q' = q := by simpa using hq
                  exact hcc
                · exact Ty.Rel.ofPlain t' y _ hq hcc
              refine ⟨by simpa using hn, css.set i (pre ++ mid' ++ post), ?_, A.set i hcc⟩
              have hi : i < css.length := (List.getElem?_eq_some_iff.1 hc).1
              rw [List.set_eq_take_append_cons_drop, if_pos hi, e3]; simp
          · cases hy
        · cases hy
      · cases e
    · rename_i a b
      obtain ⟨c1, c2, rfl, h1, h2⟩ := h
      obtain ⟨y, hy, H⟩ := ih _ a _ _ _ c1 h1 e
      refine ⟨_, hy, fun mid' hm => ?_⟩
      obtain ⟨e1, o, ho, pre, mid, post, rfl, hp, hl, hc⟩ := H mid' hm
      exact ⟨by rw [mkPair_sh, e1]; rfl, o, ho, pre, mid, post ++ c2, by simp, hp, hl, by simpa using mkPair_C hc h2⟩
    · rename_i a b
      obtain ⟨c1, c2, rfl, h1, h2⟩ := h
      obtain ⟨y, hy, H⟩ := ih _ b _ _ _ c2 h2 e
      refine ⟨_, hy, fun mid' hm => ?_⟩
      obtain ⟨e1, o, ho, pre, mid, post, rfl, hp, hl, hc⟩ := H mid' hm
      refine ⟨by rw [mkPair_sh, e1]; rfl, c1.length + o, ?_, c1 ++ pre, mid, post, by simp, by simp [hp], hl, by simpa using mkPair_C h1 hc⟩
      simp only [AVal.sh, Sh.at]
      rw [ho, AVal.C.length _ _ h1]
    · rename_i a
      obtain ⟨y, hy, H⟩ := ih _ a _ _ _ cs h e
      refine ⟨_, hy, fun mid' hm => ?_⟩
      obtain ⟨e1, o, ho, pre, mid, post, rfl, hp, hl, hc⟩ := H mid' hm
      exact ⟨by rw [mkOne_sh, e1]; rfl, o, ho, pre, mid, post, rfl, hp, hl, mkOne_C hc⟩
end Go.Am
