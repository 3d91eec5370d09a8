/- The abstract machine: a lookup and an entry of one map may change places. -/
import Derived.Test.YtiecnmmffplgcaaAmTA
namespace Go.Am
section
variable {T : Tbl} {R : Type}

/-- Is that a lookup, and that an entry, of one type of maps? -/
def lookEntry (p q : Op) : Bool := match p with
  | .lookup t _ _ false => match q with
    | .mapEntry t' _ _ => Nat.beq t t'
    | _ => false
  | _ => false

theorem lookEntry_inv {p q : Op} (h : lookEntry p q = true) : ∃ t a b c d, p = .lookup t a b false ∧ q = .mapEntry t c d := by
  unfold lookEntry at h
  split at h
  · split at h
    · obtain rfl := Nat.eq_of_beq_eq_true h; exact ⟨_, _, _, _, _, rfl, rfl⟩
    · cases h
  · cases h

theorem mapK_inv {get : Nat → Option AObj} {t : TypeId} {v u : AVal} {k : (r : Nat) → (K V : Ty) → MD K V → K.den → V.den → Option R} {z : R} (h : mapK T get t v u k = some z) :
    ∃ r K V m bs clk kd zd kt et ed, undOf T t = .map kt et ∧ v = .map r ∧ get r = some (.map K V m bs clk) ∧ T et = some ed ∧ toDat K u = some kd ∧ toDat V ed.zero = some zd ∧ keyFits T K kt = true ∧ k r K V (m, bs, clk) kd zd = some z := by
  unfold mapK at h
  split at h
  case h_2 => cases h
  rename_i kt et hut
  split at h
  case h_2 => cases h
  rename_i r
  split at h
  case h_2 => cases h
  rename_i K V m bs clk ed hg hed
  split at h
  case h_2 => cases h
  rename_i kd zd hkd hzd
  obtain ⟨hf, h⟩ := cond_some h
  exact ⟨r, K, V, m, bs, clk, kd, zd, kt, et, ed, hut, rfl, hg, hed, hkd, hzd, hf, h⟩

theorem mapK_mk {get : Nat → Option AObj} {t : TypeId} {u : AVal} {k : (r : Nat) → (K V : Ty) → MD K V → K.den → V.den → Option R} {r : Nat} {K V : Ty} {m : List (K.den × V.den)} {bs : List Nat} {clk : Nat} {kd : K.den} {zd : V.den} {kt et : TypeId} {ed : TD}
    (h1 : undOf T t = .map kt et) (h2 : get r = some (.map K V m bs clk)) (h3 : T et = some ed) (h4 : toDat K u = some kd) (h5 : toDat V ed.zero = some zd) (h6 : keyFits T K kt = true) : mapK T get t (.map r) u k = k r K V (m, bs, clk) kd zd := by
  unfold mapK
  rw [h1]
  simp only [h2, h3, h4, h5, h6, cond_true]

theorem mfind_end {K V : Ty} (k k' : K.den) (z : V.den) : ∀ l : List (K.den × V.den), (mfind K V k (l ++ [(k', z)])).getD z = (mfind K V k l).getD z
  | [] => by
    simp only [List.nil_append, mfind]
    cases K.eqB k k' <;> rfl
  | e :: l => by
    simp only [List.cons_append, mfind]
    cases K.eqB k e.1
    · exact mfind_end k k' z l
    · rfl

theorem mfind_ment {K V : Ty} (k k' : K.den) (z : V.den) (d : MD K V) : (mfind K V k (ment K V k' z d).2.1).getD z = (mfind K V k d.1).getD z := by
  unfold ment
  split
  · rfl
  · exact mfind_end k k' z d.1

/-- A lookup comes to the same behind an entry. -/
theorem look_behind {get get' : Nat → Option AObj} {t : TypeId} {v u v' u' : AVal} {w1 : AVal} {u1 : Ups} (h : ∀ (R : Type) (k : AVal → Ups → Option R), actLookup T get t v u false k = k w1 u1)
    {w2 : AVal} {u2 : Ups} {get0 : Nat → Option AObj} (g : ∀ (R : Type) (k : AVal → Ups → Option R), actMapEntry T get0 t v' u' k = k w2 u2)
    (same : ∀ r ob ob', get r = some ob → get0 r = some ob' → ob = ob') (hother : ∀ r, (∀ p ∈ u2, p.1 ≠ r) → get' r = get r) (hset : ∀ r ob o0, get r = some o0 → u2 = [(r, ob)] → get' r = some ob) :
    u1 = [] ∧ ∀ (R : Type) (k : AVal → Ups → Option R), actLookup T get' t v u false k = k w1 u1 := by
  have h1 := h (AVal × Ups) fun v u => some (v, u)
  have g1 := g (AVal × Ups) fun v u => some (v, u)
  unfold actLookup at h1
  unfold actMapEntry at g1
  obtain ⟨r, K, V, m, bs, clk, kd, zd, kt, et, ed, hut, rfl, hg, hed, hkd, hzd, hf, hh⟩ := mapK_inv h1
  simp only [cond_false, Option.some.injEq, Prod.mk.injEq] at hh
  obtain ⟨rfl, rfl⟩ := hh
  refine ⟨rfl, fun R k => ?_⟩
  obtain ⟨r', K', V', m', bs', clk', kd', zd', kt', et', ed', hut', rfl, hg', hed', hkd', hzd', hf', hh'⟩ := mapK_inv g1
  simp only [Option.some.injEq, Prod.mk.injEq] at hh'
  obtain ⟨_, rfl⟩ := hh'
  rw [hut] at hut'; cases hut'
  rw [hed] at hed'; cases hed'
  unfold actLookup
  by_cases e : r' = r
  · subst e
    have := same _ _ _ hg hg'
    cases this
    rw [hzd] at hzd'; cases hzd'
    rw [mapK_mk hut (hset _ _ _ hg rfl) hed hkd hzd hf]
    simp only [cond_false]
    rw [mfind_ment]
  · rw [mapK_mk hut ((hother r fun p hp => by simp at hp; subst hp; exact e).trans hg) hed hkd hzd hf]
    rfl
end
end Go.Am
