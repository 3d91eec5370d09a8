/- The abstract machine, eighteenth part, yet more: maps. -/
import Derived.Test.YtiecnmmffplgcaaAmRA
import Derived.MapKept
import Derived.WideKeyRuns
namespace Go.Am

/-! ### As plain data: entries in the order in which they came, their stamps, the next stamp -/
section
variable (K V : Ty)

/-- Where a key stands. -/
def midx (k : K.den) : List (K.den × V.den) → Option Nat
  | [] => none
  | e :: l => bif K.eqB k e.1 then some 0 else match midx k l with
    | some i => some (i + 1)
    | none => none

def mfind (k : K.den) : List (K.den × V.den) → Option V.den
  | [] => none
  | e :: l => bif K.eqB k e.1 then some e.2 else mfind k l

abbrev MD : Type := List (K.den × V.den) × List Nat × Nat

def mput (k : K.den) (v : V.den) (d : MD K V) : MD K V := match midx K V k d.1 with
  | some i => (d.1.set i (k, v), d.2.1, d.2.2)
  | none => (d.1 ++ [(k, v)], d.2.1 ++ [d.2.2], d.2.2 + 1)

/-- The entry of a key, made if it is not there: the value, the stamp; the map behind it. -/
def ment (k : K.den) (z : V.den) (d : MD K V) : (V.den × Int) × MD K V := match midx K V k d.1 with
  | some i => ((match d.1[i]? with | some e => e.2 | none => z, (d.2.1.getD i 0 : Nat)), d)
  | none => ((z, (d.2.2 : Nat)), (d.1 ++ [(k, z)], d.2.1 ++ [d.2.2], d.2.2 + 1))

/-- The value of the entry with a stamp. -/
def mstore (s : Int) (v : V.den) (d : MD K V) : Option (MD K V) := match d.2.1.findIdx? (fun (b : Nat) => (b : Int) == s) with
  | some i => some (d.1.modify i (fun e => (e.1, v)), d.2.1, d.2.2)
  | none => none

def mdel (k : K.den) (d : MD K V) : MD K V := match midx K V k d.1 with
  | some i => (d.1.eraseIdx i, d.2.1.eraseIdx i, d.2.2)
  | none => d

theorem mfind_idx (k : K.den) : ∀ l : List (K.den × V.den), mfind K V k l = (midx K V k l).bind fun i => l[i]?.map (·.2)
  | [] => rfl
  | e :: l => by
    simp only [mfind, midx]
    cases K.eqB k e.1
    · simp only [cond_false, mfind_idx k l]
      cases midx K V k l <;> simp
    · simp
theorem midx_lt (k : K.den) : ∀ (l : List (K.den × V.den)) (i : Nat), midx K V k l = some i → i < l.length
  | [], i, h => by cases h
  | e :: l, i, h => by
    simp only [midx] at h
    cases hk : K.eqB k e.1 with
    | true => rw [hk] at h; cases h; simp
    | false =>
      rw [hk] at h
      simp only [cond_false] at h
      split at h
      · rename_i j hj
        cases h
        have := midx_lt k l j hj
        simp only [List.length_cons]; omega
      · cases h
end

section
variable {P : Program} {T : Tbl} {ρ : Operand → Option AVal} {get : Nat → Option AObj} {a : Act} {w : World} {x : Ctx} {R : Type}

/-- Which keys are told of: ints, and two of them in a struct. -/
def keyFits (T : Tbl) (K : Ty) (kt : TypeId) : Bool := match K with
  | .int _ => fits T K kt
  | .pair (.int _) (.int _) => fits T K kt && seqCmp T K [(0, kt)]
  | _ => false

/-- What of a map's key is the same value. -/
theorem key_same {K : Ty} {kt : TypeId} (hf : keyFits T K kt = true) {k k' : K.den} (h : K.eqB k k' = true) : k = k' := by
  unfold keyFits at hf
  split at hf
  · exact of_decide_eq_true h
  · obtain ⟨a, b⟩ := k
    obtain ⟨c, d⟩ := k'
    simp only [Ty.eqB, Bool.and_eq_true, decide_eq_true_eq] at h
    rw [h.1, h.2]
  · cases hf

theorem key_val {K : Ty} {kt : TypeId} (hf : keyFits T K kt = true) {p q : Bool} {k : K.den} {u v : Value} (h : (AVal.dat p K k).V x u) (g : (AVal.dat q K k).V x v) : u = v := by
  unfold keyFits at hf
  split at hf
  · rw [V_int.1 h, V_int.1 g]
  · obtain ⟨cs, ⟨c1, c2, e1, e2, e3⟩, e4⟩ := V_dat h
    obtain ⟨ds, ⟨d1, d2, f1, f2, f3⟩, f4⟩ := V_dat g
    simp only [Ty.Rel] at e2 e3 f2 f3
    subst e2; subst e3; subst f2; subst f3
    rw [e4, f4, e1, f1]
  · cases hf

theorem key_bits {K : Ty} {kt : TypeId} (hf : keyFits T K kt = true) {p : Bool} {k : K.den} {u : Value} (h : (AVal.dat p K k).V x u) : Instr.sameBits 10000 u u = true := by
  unfold keyFits at hf
  split at hf
  · rw [V_int.1 h]; simp [Instr.sameBits]
  · obtain ⟨cs, ⟨c1, c2, e1, e2, e3⟩, e4⟩ := V_dat h
    simp only [Ty.Rel] at e2 e3
    subst e2; subst e3
    rw [e4, e1]
    simp [valueOf, Ty.agg, Instr.sameBits]
  · cases hf

theorem key_check (hT : TblOk P T) {K : Ty} {kt : TypeId} (hf : keyFits T K kt = true) {p : Bool} {k : K.den} {u : Value} (h : (AVal.dat p K k).V x u) (em : Bool) : (Instr.checkKey em 10000 kt u).run P w = .ok () w := by
  unfold keyFits at hf
  split at hf
  · rename_i kd
    unfold fits at hf
    simp only [seqFits] at hf
    split at hf
    · rename_i k' he
      obtain ⟨_, d, h2, h3, _⟩ := hd?_inv he
      have hu := (hT _ _ h2).und
      rw [h3] at hu
      obtain rfl : kd = k' := by simpa using hf
      rw [V_int.1 h]
      exact MapKept.run_checkKey (d := .int kd) (k := .int kd k) hu (show MapKept.IsKey _ _ from rfl) em 9999
    · cases hf
  · rename_i ka kb
    rw [Bool.and_eq_true] at hf
    obtain ⟨cs, ⟨c1, c2, e1, e2, e3⟩, e4⟩ := V_dat h
    simp only [Ty.Rel] at e2 e3
    subst e2; subst e3
    have hf1 := hf.1
    unfold fits seqFits at hf1
    split at hf1
    · rename_i g h0 fs he
      rw [Bool.and_eq_true] at hf1
      obtain ⟨_, d, h2, h3, _⟩ := hd?_inv he
      have hu := (hT _ _ h2).und
      rw [h3] at hu
      obtain ⟨fields, u1, u2, u3⟩ := hu
      have hfs : fs = [] := by
        cases fs with
        | nil => rfl
        | cons _ _ => have := hf1.2; unfold seqFits at this; cases this
      subst hfs
      obtain ⟨f1, f2, hfl⟩ : ∃ f1 f2, fields = #[f1, f2] := by
        obtain ⟨l⟩ := fields
        match l, u2 with
        | [f1, f2], _ => exact ⟨f1, f2, rfl⟩
      subst hfl
      simp only [List.map_cons, List.map_nil, List.cons.injEq, and_true] at u2
      obtain ⟨rfl, rfl⟩ := u2
      obtain ⟨o1, d1, t1, g1, s1⟩ := seqFits_one hf1.1
      obtain ⟨o2, d2, t2, g2, s2⟩ := seqFits_one hf1.2
      have i1 : P.underlying f1.type = some (.int ka) := by
        have := hf1.1
        unfold seqFits at this
        split at this
        · rename_i k' he
          obtain ⟨_, d, h2, h3, _⟩ := hd?_inv he
          have hu := (hT _ _ h2).und
          rw [h3] at hu
          obtain rfl : ka = k' := by simpa using this
          exact hu
        · cases this
      have i2 : P.underlying f2.type = some (.int kb) := by
        have := hf1.2
        unfold seqFits at this
        split at this
        · rename_i k' he
          obtain ⟨_, d, h2, h3, _⟩ := hd?_inv he
          have hu := (hT _ _ h2).und
          rw [h3] at hu
          obtain rfl : kb = k' := by simpa using this
          exact hu
        · cases this
      have n1 := u3 f1 (by simp)
      have n2 := u3 f2 (by simp)
      simp only at o1 o2
      have v1 := part_at hT t1 (w := w) (c := cs.toArray) (pre := []) (mid := [.int ka k.1]) (post := [.int kb k.2]) (by rw [e1]; rfl) s1 (fun _ => rfl)
      have v2 := part_at hT t2 (w := w) (c := cs.toArray) (pre := [.int ka k.1]) (mid := [.int kb k.2]) (post := []) (by rw [e1]; rfl) s2 (fun _ => rfl)
      rw [show d1.und.agg = false from g1] at v1
      rw [show d2.und.agg = false from g2] at v2
      have c1 := MapKept.run_checkKey (w := w) (k := .int ka k.1) i1 (show MapKept.IsKey _ _ from rfl) em 9998
      have c2 := MapKept.run_checkKey (w := w) (k := .int kb k.2) i2 (show MapKept.IsKey _ _ from rfl) em 9998
      have v1 : (part f1.type cs.toArray f1.offset).run P w = .ok (.int ka k.1) w := by rw [o1]; exact v1
      have v2 : (part f2.type cs.toArray f2.offset).run P w = .ok (.int kb k.2) w := by rw [o2]; exact v2
      rw [e4]
      simp only [valueOf, Ty.agg, if_true]
      rw [Instr.checkKey]
      simp [run_underlying u1, n1, n2, v1, v2, c1, c2]
    · cases hf1
  · cases hf

/-- Two keys, compared. -/
theorem key_equal (hT : TblOk P T) {K : Ty} {kt : TypeId} (hf : keyFits T K kt = true) {p q : Bool} {k k' : K.den} {u v : Value} (h : (AVal.dat p K k).V x u) (g : (AVal.dat q K k').V x v) : (Op.equal kt u v).run P w = .ok (K.eqB k k') w := by
  unfold keyFits at hf
  split at hf
  · rename_i kd
    obtain ⟨cs, r1, e1⟩ := V_dat h
    obtain ⟨ds, r2, e2⟩ := V_dat g
    rw [e1, e2]
    exact (eq_sound hT w (.int kd)).1 (0, kt) 0 10000 k k' cs ds hf rfl r1 r2 (by simp [Ty.depth])
  · rename_i ka kb
    rw [Bool.and_eq_true] at hf
    obtain ⟨cs, r1, e1⟩ := V_dat h
    obtain ⟨ds, r2, e2⟩ := V_dat g
    rw [e1, e2]
    exact (eq_sound hT w (.pair (.int ka) (.int kb))).1 (0, kt) 0 10000 k k' cs ds hf.1 hf.2 r1 r2 (by simp [Ty.depth])
  · cases hf

theorem asking (hT : TblOk P T) {K V : Ty} {kt : TypeId} (hf : keyFits T K kt = true) {p : Bool} {k : K.den} {u : Value} (h : (AVal.dat p K k).V x u) : ∀ (m : List (K.den × V.den)) (es : List MapEntry) (i : Nat), All2 (EntryRel x K V) m es →
    (Instr.findAsking kt u es i).run P w = .ok ((midx K V k m).bind fun j => (es[j]?).map fun e => (i + j, e.val)) w
  | [], es, i, A => by
    obtain rfl : es = [] := List.length_eq_zero_iff.1 A.1.symm
    rfl
  | e :: m, es, i, A => by
    obtain ⟨c, es, rfl, hc, A⟩ := A.cons_inv
    simp only [Instr.findAsking, Sem.run_bind, key_equal hT hf h hc.1, Result.andThen_ok, midx]
    cases K.eqB k e.1
    · simp only [Bool.false_eq_true, if_false, cond_false, asking hT hf h m es (i + 1) A]
      cases midx K V k m with
      | none => rfl
      | some j => simp [Nat.add_assoc, Nat.add_comm 1 j]
    · simp

theorem now {K V : Ty} {kd : IntKind} (hK : K = .int kd) {p : Bool} {k : K.den} {u : Value} (h : (AVal.dat p K k).V x u) : ∀ (m : List (K.den × V.den)) (es : List MapEntry) (i : Nat), All2 (EntryRel x K V) m es →
    Instr.findNow (.int kd) u es i = some ((midx K V k m).bind fun j => (es[j]?).map fun e => (i + j, e.val))
  | [], es, i, A => by
    obtain rfl : es = [] := List.length_eq_zero_iff.1 A.1.symm
    rfl
  | e :: m, es, i, A => by
    obtain ⟨c, es, rfl, hc, A⟩ := A.cons_inv
    have ih := now hK h m es (i + 1) A
    subst hK
    have h1 := V_int.1 h
    have h2 := V_int.1 hc.1
    subst h1
    simp only [Instr.findNow, h2, Instr.sameNow, if_true, midx, Ty.eqB]
    by_cases e0 : k = e.1
    · rw [show (k == e.1) = true from beq_iff_eq.2 e0, decide_eq_true e0]; simp
    · rw [show (k == e.1) = false from beq_eq_false_iff_ne.2 e0, decide_eq_false e0]
      simp only [ih, cond_false]
      cases midx (.int kd) V k m with
      | none => rfl
      | some j => simp [Nat.add_assoc, Nat.add_comm 1 j]

theorem find_ok (hT : TblOk P T) {K V : Ty} {kt : TypeId} (hf : keyFits T K kt = true) {p : Bool} {k : K.den} {u : Value} (h : (AVal.dat p K k).V x u) {m : List (K.den × V.den)} {es : List MapEntry} (A : All2 (EntryRel x K V) m es) :
    (Instr.findKey kt u es).run P w = .ok ((midx K V k m).bind fun j => (es[j]?).map fun e => (j, e.val)) w := by
  have h1 := asking (w := w) hT hf h m es 0 A
  simp only [Nat.zero_add] at h1
  have hf0 := hf
  unfold keyFits at hf0
  split at hf0
  · rename_i kd
    unfold fits at hf0
    simp only [seqFits] at hf0
    split at hf0
    · rename_i k' he
      obtain ⟨_, d, h2, h3, _⟩ := hd?_inv he
      have hu := (hT _ _ h2).und
      rw [h3] at hu
      obtain rfl : kd = k' := by simpa using hf0
      have h2 := now rfl h m es 0 A
      simp only [Nat.zero_add] at h2
      exact MapKept.run_findKey (d := .int kd) hu h2
    · cases hf0
  · rename_i ka kb
    rw [Bool.and_eq_true] at hf0
    have hf1 := hf0.1
    unfold fits seqFits at hf1
    split at hf1
    · rename_i g h0 fs he
      obtain ⟨_, d, h2, h3, _⟩ := hd?_inv he
      have hu := (hT _ _ h2).und
      rw [h3] at hu
      obtain ⟨fields, u1, _, _⟩ := hu
      exact (run_findKey_eq (P := P) (w := w) (k := kt) (by rw [show P.underlying kt = _ from u1]) u es).trans h1
    · cases hf1
  · cases hf0
end
end Go.Am
