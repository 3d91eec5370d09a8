/- The abstract machine, first part: the types of its data, how data lie in memory. -/
import Derived.Calls
namespace Go.Am

inductive Ty where
  | int (k : IntKind) | bool | str | unit
  | one (t : Ty) | pair (a b : Ty)
  | arr (n : Nat) (t : Ty)
  | slice (t : Ty)
  deriving DecidableEq

@[reducible] def Ty.den : Ty → Type
  | .int _ => Int | .bool => Bool | .str => ByteArray | .unit => Unit
  | .one t => t.den | .pair a b => a.den × b.den
  | .arr _ t => List t.den | .slice t => List t.den

def Ty.size : Ty → Nat
  | .int _ | .bool | .str | .slice _ => 1
  | .unit => 0 | .one t => t.size | .pair a b => a.size + b.size | .arr n t => n * t.size

def Ty.agg : Ty → Bool
  | .unit | .one _ | .pair _ _ | .arr _ _ => true
  | _ => false

/-- Two lists, place by place. -/
def All2 {α β : Type} (R : α → β → Prop) (xs : List α) (ys : List β) : Prop :=
  xs.length = ys.length ∧ ∀ (i : Nat) x y, xs[i]? = some x → ys[i]? = some y → R x y

/-- What a memory is for the machine: its blocks. -/
abbrev Heap := Nat → Option Obj

/-- From a place on, a block holds these values. -/
def Holds (h : Heap) (b o : Nat) (cs : List Value) : Prop :=
  ∃ c e fr, h b = some (.cells c e fr) ∧ ∀ (j : Nat) v, cs[j]? = some v → c[o + j]? = some v

/-- Data and the values that they lie in. S: the blocks that no one writes. -/
def Ty.Rel (h : Heap) (S : Nat → Prop) : (t : Ty) → t.den → List Value → Prop
  | .int k, n, cs => cs = [.int k n]
  | .bool, b, cs => cs = [.bool b]
  | .str, s, cs => cs = [.string s]
  | .unit, _, cs => cs = []
  | .one t, x, cs => Ty.Rel h S t x cs
  | .pair a b, x, cs => ∃ c1 c2, cs = c1 ++ c2 ∧ Ty.Rel h S a x.1 c1 ∧ Ty.Rel h S b x.2 c2
  | .arr n t, xs, cs => xs.length = n ∧ ∃ css, cs = css.flatten ∧ All2 (Ty.Rel h S t) xs css
  | .slice t, xs, cs => ∃ base len cap, cs = [.slice base len cap] ∧ len = xs.length ∧ len ≤ cap ∧ (base = none → cap = 0) ∧
      (0 < len → ∃ b o, base = some ⟨b, o, none⟩ ∧ S b ∧ ∃ css, Holds h b o css.flatten ∧ All2 (Ty.Rel h S t) xs css)

theorem All2.mono {α β : Type} {R R' : α → β → Prop} {xs : List α} {ys : List β} (h : All2 R xs ys) (hr : ∀ x y, R x y → R' x y) : All2 R' xs ys :=
  ⟨h.1, fun i x y hx hy => hr _ _ (h.2 i x y hx hy)⟩

theorem All2.nil {α β : Type} {R : α → β → Prop} : All2 R [] [] := ⟨rfl, fun i x y hx => by simp at hx⟩

theorem All2.cons {α β : Type} {R : α → β → Prop} {x : α} {y : β} {xs : List α} {ys : List β} (h : R x y) (hs : All2 R xs ys) : All2 R (x :: xs) (y :: ys) := by
  refine ⟨by simp [hs.1], fun i u v hu hv => ?_⟩
  cases i with
  | zero => simp at hu hv; subst hu; subst hv; exact h
  | succ i => simp at hu hv; exact hs.2 i u v hu hv

theorem All2.cons_inv {α β : Type} {R : α → β → Prop} {x : α} {xs : List α} {ys : List β} (h : All2 R (x :: xs) ys) : ∃ y zs, ys = y :: zs ∧ R x y ∧ All2 R xs zs := by
  cases ys with
  | nil => simp [All2] at h
  | cons y zs => exact ⟨y, zs, rfl, h.2 0 x y rfl rfl, by simpa [All2] using h.1, fun i u v hu hv => h.2 (i + 1) u v (by simpa using hu) (by simpa using hv)⟩

theorem All2.nil_inv {α β : Type} {R : α → β → Prop} {ys : List β} (h : All2 R [] ys) : ys = [] := by
  cases ys with
  | nil => rfl
  | cons y zs => simp [All2] at h

theorem All2.append {α β : Type} {R : α → β → Prop} {xs xs' : List α} {ys ys' : List β} (h : All2 R xs ys) (h' : All2 R xs' ys') : All2 R (xs ++ xs') (ys ++ ys') := by
  induction xs generalizing ys with
  | nil => rw [h.nil_inv]; exact h'
  | cons x xs ih => obtain ⟨y, zs, rfl, h1, h2⟩ := h.cons_inv; exact .cons h1 (ih h2)

theorem Holds.congr {h h' : Heap} {b o : Nat} {cs : List Value} (hb : h' b = h b) (H : Holds h b o cs) : Holds h' b o cs := by
  unfold Holds at *; rw [hb]; exact H

/-- Memory may change elsewhere; more blocks may be such as no one writes. -/
theorem Ty.Rel.congr {h h' : Heap} {S S' : Nat → Prop} (hs : ∀ b, S b → S' b ∧ h' b = h b) :
    ∀ (t : Ty) (x : t.den) (cs : List Value), Ty.Rel h S t x cs → Ty.Rel h' S' t x cs := by
  intro t
  induction t with
  | int k => exact fun _ _ h => h
  | bool => exact fun _ _ h => h
  | str => exact fun _ _ h => h
  | unit => exact fun _ _ h => h
  | one t ih => exact fun x cs h => ih x cs h
  | pair a b iha ihb => rintro x cs ⟨c1, c2, e, h1, h2⟩; exact ⟨c1, c2, e, iha _ _ h1, ihb _ _ h2⟩
  | arr n t ih => rintro xs cs ⟨hn, css, e, h1⟩; exact ⟨hn, css, e, h1.mono fun x y hxy => ih x y hxy⟩
  | slice t ih =>
    rintro xs cs ⟨base, len, cap, e, hl, hc, hnil, hb⟩
    refine ⟨base, len, cap, e, hl, hc, hnil, fun hp => ?_⟩
    obtain ⟨b, o, h1, h2, css, H, A⟩ := hb hp
    exact ⟨b, o, h1, (hs _ h2).1, css, H.congr (hs _ h2).2, A.mono fun x y hxy => ih x y hxy⟩

theorem flatten_length {α : Type} {css : List (List α)} {n : Nat} (h : ∀ c ∈ css, c.length = n) : css.flatten.length = css.length * n := by
  induction css with
  | nil => simp
  | cons c css ih =>
    rw [List.flatten_cons, List.length_append, ih (fun d hd => h d (by simp [hd])), h c (by simp), List.length_cons, Nat.succ_mul]; omega

/-- Data take as many values as their type says. -/
theorem Ty.Rel.length {h : Heap} {S : Nat → Prop} : ∀ (t : Ty) (x : t.den) (cs : List Value), Ty.Rel h S t x cs → cs.length = t.size := by
  intro t
  induction t with
  | int k => rintro _ _ rfl; rfl
  | bool => rintro _ _ rfl; rfl
  | str => rintro _ _ rfl; rfl
  | unit => rintro _ _ rfl; rfl
  | one t ih => exact fun x cs h => ih x cs h
  | pair a b iha ihb => rintro x cs ⟨c1, c2, rfl, h1, h2⟩; simp [Ty.size, iha _ _ h1, ihb _ _ h2]
  | arr n t ih =>
    rintro xs cs ⟨hn, css, rfl, h1⟩
    rw [flatten_length (n := t.size) (fun c hc => ?_), ← h1.1, hn, Ty.size]
    obtain ⟨i, hi, rfl⟩ := List.getElem_of_mem hc
    exact ih (xs[i]'(by rw [h1.1]; exact hi)) _ (h1.2 i _ _ (List.getElem?_eq_getElem _) (List.getElem?_eq_getElem _))
  | slice t ih => rintro xs cs ⟨base, len, cap, rfl, _⟩; rfl

theorem All2.lengths {h : Heap} {S : Nat → Prop} {t : Ty} {xs : List t.den} {css : List (List Value)} (H : All2 (Ty.Rel h S t) xs css) : ∀ c ∈ css, c.length = t.size := by
  intro c hc
  obtain ⟨i, hi, rfl⟩ := List.getElem_of_mem hc
  exact Ty.Rel.length t (xs[i]'(by rw [H.1]; exact hi)) _ (H.2 i _ _ (List.getElem?_eq_getElem _) (List.getElem?_eq_getElem _))
end Go.Am
