/- The abstract machine: what only asks for an object's shape does not mind a store. -/
import Derived.Test.YtiecnmmffplgcaaAmT
namespace Go.Am

/-- Objects of one shape. -/
inductive Shp : Option AObj → Option AObj → Prop
  | same (a : Option AObj) : Shp a a
  | box {v v' : AVal} (h : v.sh = v'.sh) : Shp (some (.box v)) (some (.box v'))
  | arr {g : Nat} {t : Ty} {xs xs' : List t.den} (h : xs.length = xs'.length) : Shp (some (.arr g t xs)) (some (.arr g t xs'))

def addrOp : Op → Bool
  | .fieldAddr _ _ _ | .indexAddr _ _ _ | .nilCheck _ => true
  | _ => false
def storeOp : Op → Bool
  | .store _ _ _ => true
  | _ => false

section
variable {T : Tbl} {R : Type}

theorem shp_key {get get' : Nat → Option AObj} (h : ∀ r, Shp (get r) (get' r)) (r g : Nat) (G : Sh → Option R) : (match get r with | some ob => (match shapeOf ob g with | some s => G s | none => none) | none => none) = (match get' r with | some ob => (match shapeOf ob g with | some s => G s | none => none) | none => none) := by
  have h := h r
  generalize get r = a at h ⊢
  generalize get' r = b at h ⊢
  cases h with
  | same => rfl
  | box e => simp only [shapeOf, e]
  | arr e => rfl

theorem there_shape {get get' : Nat → Option AObj} (h : ∀ r, Shp (get r) (get' r)) (r g : Nat) (k : Option R) : thereK get r g k = thereK get' r g k := by
  unfold thereK
  have h := h r
  generalize get r = a at h ⊢
  generalize get' r = b at h ⊢
  cases h <;> rfl

theorem fieldAddr_shape {get get' : Nat → Option AObj} (h : ∀ r, Shp (get r) (get' r)) (t : TypeId) (v : AVal) (j : Nat) (k : AVal → Ups → Option R) : actFieldAddr T get t v j k = actFieldAddr T get' t v j k := by
  unfold actFieldAddr
  split
  · split
    · split
      · rename_i fd _
        cases Nat.beq fd.size 0 with
        | true => rfl
        | false =>
          simp only [cond_false]
          split
          · exact shp_key h _ _ _
          · rfl
          · rfl
      · rfl
    · rfl
  · rfl

theorem indexAddr_shape {get get' : Nat → Option AObj} (h : ∀ r, Shp (get r) (get' r)) (t : TypeId) (v i : AVal) (k : AVal → Option R) : actIndexAddr T get t v i k = actIndexAddr T get' t v i k := by
  have row : ∀ (r : Nat) (G : Nat → Ty → Nat → Option R), (match get r with | some (.arr g' τ xs) => G g' τ xs.length | _ => none) = (match get' r with | some (.arr g' τ xs) => G g' τ xs.length | _ => none) := by
    intro r G
    have h := h r
    generalize get r = a at h ⊢
    generalize get' r = b at h ⊢
    cases h with
    | same => rfl
    | box e => rfl
    | arr e => simp only [e]
  unfold actIndexAddr
  split
  · rename_i n _
    split
    · split
      · split
        · exact shp_key h _ _ _
        · rfl
      · rfl
    · split
      · rename_i ed _
        split
        · rename_i r g
          exact row r fun g' τ l => bif Nat.beq g g' && Nat.beq ed.size τ.size then (if 0 ≤ n ∧ n < l then k (.ptr r g [.idx n.toNat]) else none) else none
        · rename_i r g lo len ex
          exact row r fun g' τ _ => bif Nat.beq g g' && Nat.beq ed.size τ.size then (if 0 ≤ n ∧ n < len then k (.ptr r g [.idx (lo + n.toNat)]) else none) else none
        · rfl
        · rfl
      · rfl
    · rfl
  · rfl

theorem addr_shape {fns : Fns} {op : Op} (ha : addrOp op = true) {get get' : Nat → Option AObj} (h : ∀ r, Shp (get r) (get' r)) (an : Ann) (ρ : Operand → Option AVal) (k : AVal → Ups → Option R) : actK R T fns op an ρ get k = actK R T fns op an ρ get' k := by
  cases op <;> simp only [addrOp] at ha <;> try (cases ha; done)
  · simp only [actK]
    split
    · rename_i v _
      unfold actNilCheck
      split
      · exact there_shape h _ _ _
      · rfl
      · rfl
      · rfl
    · rfl
  · simp only [actK]
    split
    · exact fieldAddr_shape h _ _ _ _
    · rfl
  · simp only [actK]
    split
    · exact indexAddr_shape h _ _ _ _
    · rfl

theorem addr_plain {fns : Fns} {op : Op} (ha : addrOp op = true) (get : Nat → Option AObj) (an : Ann) (ρ : Operand → Option AVal) (k : AVal → Ups → Option R) : actK R T fns op an ρ get k = actK R T fns op an ρ get (fun v _ => k v []) := by
  cases op <;> simp only [addrOp] at ha <;> try (cases ha; done)
  · rfl
  · show (match ρ _ with | some v => actFieldAddr T get _ v _ k | none => none) = (match ρ _ with | some v => actFieldAddr T get _ v _ (fun v _ => k v []) | none => none)
    split
    · unfold actFieldAddr
      rfl
    · rfl
  · rfl

theorem setK_sh : ∀ (p : Path) (v u v' : AVal), v.setK p u some = some v' → v'.sh = v.sh := by
  intro p
  induction p with
  | nil =>
    intro v u v' e
    unfold AVal.setK at e
    split at e
    · rename_i h; cases e; exact h
    · cases e
  | cons st p ih =>
    intro v u v' e
    unfold AVal.setK at e
    split at e <;> try cases e
    all_goals (rename_i hst; try cases hst)
    · obtain ⟨y, h1, h2⟩ := setK_inv _ _ _ _ _ e
      cases h2; rw [mkPair_sh, ih _ _ _ h1]; rfl
    · obtain ⟨y, h1, h2⟩ := setK_inv _ _ _ _ _ e
      cases h2; rw [mkPair_sh, ih _ _ _ h1]; rfl
    · obtain ⟨y, h1, h2⟩ := setK_inv _ _ _ _ _ e
      cases h2; rw [mkOne_sh, ih _ _ _ h1]; rfl
    · split at e
      · obtain ⟨y, h1, h2⟩ := setK_inv _ _ _ _ _ e
        split at h2
        · obtain ⟨_, h2⟩ := cond_some h2
          split at h2
          · cases h2; rfl
          · cases h2
        · cases h2
      · cases e
    · obtain ⟨y, h1, h2⟩ := setK_inv _ _ _ _ _ e
      cases h2; rw [mkPair_sh, ih _ _ _ h1]; rfl
    · obtain ⟨y, h1, h2⟩ := setK_inv _ _ _ _ _ e
      cases h2; rw [mkPair_sh, ih _ _ _ h1]; rfl
    · obtain ⟨y, h1, h2⟩ := setK_inv _ _ _ _ _ e
      cases h2; rw [mkOne_sh, ih _ _ _ h1]; rfl

theorem setK_row {n : Nat} {τ : Ty} {xs : List τ.den} {p : Path} (hp : idxPath p = true) {u : AVal} {q : Bool} {n' : Nat} {τ' : Ty} {ys : List τ'.den} (e : (AVal.dat true (.arr n τ) xs).setK p u some = some (.dat q (.arr n' τ') ys)) : τ' = τ ∧ ys.length = xs.length := by
  cases p with
  | nil => cases hp
  | cons s p =>
    cases s with
    | fst => cases hp
    | snd => cases hp
    | one => cases hp
    | idx i =>
      unfold AVal.setK at e
      split at e
      · obtain ⟨y, h1, h2⟩ := setK_inv _ _ _ _ _ e
        split at h2
        · obtain ⟨_, h2⟩ := cond_some h2
          split at h2
          · cases h2; exact ⟨rfl, by simp⟩
          · cases h2
        · cases h2
      · cases e

/-- A store changes one object, to one of its shape. -/
theorem store_shape {fns : Fns} {op : Op} (ha : storeOp op = true) {get : Nat → Option AObj} {an : Ann} {ρ : Operand → Option AVal} {v : AVal} {ups : Ups} (h : actK (AVal × Ups) T fns op an ρ get (fun v u => some (v, u)) = some (v, ups)) :
    ∃ r ob ob', ups = [(r, ob')] ∧ get r = some ob ∧ Shp (some ob) (some ob') := by
  cases op <;> simp only [storeOp] at ha <;> try (cases ha; done)
  simp only [actK] at h
  split at h
  case h_2 => cases h
  unfold actStore at h
  split at h
  case h_2 => cases h
  split at h
  case h_2 => cases h
  rename_i r g p _
  obtain ⟨_, h⟩ := cond_some h
  split at h
  · rename_i b hb
    obtain ⟨b', h1, h2⟩ := setK_inv _ _ _ _ _ h
    obtain ⟨_, h2⟩ := cond_some h2
    cases h2
    exact ⟨_, _, _, rfl, hb, .box (setK_sh _ _ _ _ h1).symm⟩
  · rename_i g' τ xs hb
    obtain ⟨hg, h⟩ := cond_some h
    rw [Bool.and_eq_true] at hg
    obtain ⟨b', h1, h2⟩ := setK_inv _ _ _ _ _ h
    split at h2
    · split at h2
      · rename_i ht
        subst ht
        cases h2
        exact ⟨_, _, _, rfl, hb, .arr (setK_row hg.2 h1).2.symm⟩
      · cases h2
    · cases h2
  · cases h
end
end Go.Am
