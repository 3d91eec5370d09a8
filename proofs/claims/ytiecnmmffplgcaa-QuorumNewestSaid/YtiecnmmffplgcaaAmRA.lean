/- The abstract machine, eighteenth part, more: is a slice nil? Told of one that has elements alone. -/
import Derived.Test.YtiecnmmffplgcaaAmR
namespace Go.Am
section
variable {P : Program} {T : Tbl} {ρ : Operand → Option AVal} {get : Nat → Option AObj} {a : Act} {w : World} {x : Ctx} {R : Type}

/-- Is that the nil slice of the text? -/
def isNilC : Operand → Bool
  | .const (.slice none 0 0) => true
  | _ => false

theorem isNilC_inv {y : Operand} (h : isNilC y = true) : y = .const (.slice none 0 0) := by
  unfold isNilC at h
  split at h
  · rfl
  · cases h

variable (T) in
def actNil (get : Nat → Option AObj) (op : BinOp) (t : TypeId) (u : AVal) (k : AVal → Option R) : Option R :=
  match undOf T t with
  | .slice _ => match u with
    | .dat _ (.slice _) xs => bif List.isEmpty xs then none else binEq op false k
    | .slc r g => match get r with
      | some (.arr g' _ xs) => bif Nat.beq g g' && !List.isEmpty xs then binEq op false k else none
      | _ => none
    | .sub r g _ len _ => match get r with
      | some (.arr g' _ _) => bif Nat.beq g g' && Nat.blt 0 len then binEq op false k else none
      | _ => none
    | _ => none
  | _ => none

theorem eqIn_slice_some (d : Nat) {t e : TypeId} (ad : Addr) (l c : Nat) (h : P.underlying t = some (.slice e)) : (Op.equalIn (d + 1) t (.slice (some ad) l c) (.slice none 0 0)).run P w = .ok false w := by simp [Op.equalIn, run_underlying h]
theorem run_guard_slice {op : BinOp} {t : TypeId} {xo yo : Operand} {m n : Option Addr} {l c l' c' : Nat} : (eqGuard op t xo yo (.slice m l c) (.slice n l' c')).run P w = .ok () w := by cases op <;> rfl

theorem actNil_ok (H : Meets P T ρ get a w x) {o : Oper} {op : BinOp} {t yt : TypeId} {xo yo : Operand} (ho : o.op = .binOp op t xo yo yt) (hy : isNilC yo = true) {u : AVal} (hu : u.V x (a.eval xo))
    {k : AVal → Ups → Option R} {z : R} (hk : actNil T get op t u (fun v => k v []) = some z) : ∃ u ups, k u ups = some z ∧ ActOk P o a w x u ups := by
  have ey : a.eval yo = .slice none 0 0 := by rw [isNilC_inv hy]; rfl
  unfold actNil at hk
  split at hk
  case h_2 => cases hk
  rename_i e hu2
  have hb := undOf_ok H.tbl hu2 (by simp)
  have fin : ∀ (ad : Addr) (l c : Nat), a.eval xo = .slice (some ad) l c → binEq op false (fun v => k v []) = some z → ∃ u ups, k u ups = some z ∧ ActOk P o a w x u ups := fun ad l c e1 hk => by
    have he : (Op.equal t (.slice (some ad) l c) (.slice none 0 0)).run P w = .ok false w := eqIn_slice_some 9999 ad l c hb
    exact binEq_ok H ho e1 ey run_guard_slice (by simp [binOp, he]) (by simp [binOp, he]) hk
  split at hk
  · rename_i p τ xs
    cases hx : List.isEmpty xs with
    | true => rw [hx] at hk; cases hk
    | false =>
      rw [hx] at hk
      have hlen : 0 < xs.length := by cases xs <;> simp at hx ⊢
      obtain ⟨base, len, cap, e1, e2, _, _, h5⟩ := (show Ty.Rel x.h (x.S p) (.slice τ) xs [a.eval xo] from hu)
      obtain ⟨b, off, e3, _⟩ := h5 (by omega)
      simp only [List.cons.injEq, and_true] at e1
      rw [e3] at e1
      exact fin _ _ _ e1 hk
  · rename_i r g
    split at hk
    case h_2 => cases hk
    rename_i g' τ xs ho2
    obtain ⟨hc, hk'⟩ := cond_some hk
    rw [Bool.and_eq_true] at hc
    obtain rfl := Nat.eq_of_beq_eq_true hc.1
    obtain ⟨c, e1, _, h1⟩ := (show (AVal.slc r g).C x [a.eval xo] from hu)
    simp only [List.cons.injEq, and_true] at e1
    have hob := obj_of_get (H.obj _ _ ho2)
    unfold SlcRel at h1
    rw [hob] at h1
    have h1 := h1.2 rfl
    have hm := H.mem.objs r
    rw [hob] at hm
    rcases hm with ⟨_, hnil⟩ | ⟨b, off, _, _, _, h2, _⟩
    · subst hnil; cases hc.2
    · rw [h2] at h1
      obtain ⟨cap, e2, _⟩ := h1
      exact fin _ _ _ (e1.trans e2) hk'
  · rename_i r g lo len ex
    split at hk
    case h_2 => cases hk
    rename_i g' τ xs ho2
    obtain ⟨hc, hk'⟩ := cond_some hk
    rw [Bool.and_eq_true] at hc
    obtain rfl := Nat.eq_of_beq_eq_true hc.1
    obtain ⟨c, e1, _, h1⟩ := (show (AVal.sub r g lo len ex).C x [a.eval xo] from hu)
    simp only [List.cons.injEq, and_true] at e1
    have hob := obj_of_get (H.obj _ _ ho2)
    unfold SubRel at h1
    rw [hob] at h1
    obtain ⟨_, base, cap, e2, h2, _, _, h5, _⟩ := h1.2 rfl
    have hl : 0 < len := by simpa [Nat.blt_eq] using hc.2
    cases base with
    | none => have := h5 rfl; omega
    | some ad => exact fin _ _ _ (e1.trans e2) hk'
  · cases hk
end
end Go.Am
