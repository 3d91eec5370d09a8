/- The abstract machine: RA RB RC RD RE. -/
import Derived.Test.YtbamjkhnnlekpaaAmR
import Derived.MapKept
import Derived.WideKeyRuns
import Derived.Maps.RangeRun
/- The abstract machine, eighteenth part, more: is a slice nil? Told of one that has elements alone. -/
namespace Go.Am
section
variable {P : Program} {T : Tbl} {ρ : Operand → Option AVal} {get : Nat → Option AObj} {a : Act} {w : World} {x : Ctx} {R : Type}

/-- Is that the nil slice of the text? -/
def isNilC : Operand → Bool
  | .const (.slice none 0 0) => true
  | _ => false

theorem isNilC_inv {y : Operand} (h : isNilC y = true) : y = .const (.slice none 0 0) := by
  unfold isNilC at h
  split at h
  · rfl
  · cases h

variable (T) in
def actNil (get : Nat → Option AObj) (op : BinOp) (t : TypeId) (u : AVal) (k : AVal → Option R) : Option R :=
  match undOf T t with
  | .slice _ => match u with
    | .dat _ (.slice _) xs => bif List.isEmpty xs then none else binEq op false k
    | .slc r g => match get r with
      | some (.arr g' _ xs) => bif Nat.beq g g' && !List.isEmpty xs then binEq op false k else none
      | _ => none
    | .sub r g _ len _ => match get r with
      | some (.arr g' _ _) => bif Nat.beq g g' && Nat.blt 0 len then binEq op false k else none
      | _ => none
    | _ => none
  | _ => none

theorem eqIn_slice_some (d : Nat) {t e : TypeId} (ad : Addr) (l c : Nat) (h : P.underlying t = some (.slice e)) : (Op.equalIn (d + 1) t (.slice (some ad) l c) (.slice none 0 0)).run P w = .ok false w := by simp [Op.equalIn, run_underlying h]
theorem run_guard_slice {op : BinOp} {t : TypeId} {xo yo : Operand} {m n : Option Addr} {l c l' c' : Nat} : (eqGuard op t xo yo (.slice m l c) (.slice n l' c')).run P w = .ok () w := by cases op <;> rfl

theorem actNil_ok (H : Meets P T ρ get a w x) {o : Oper} {op : BinOp} {t yt : TypeId} {xo yo : Operand} (ho : o.op = .binOp op t xo yo yt) (hy : isNilC yo = true) {u : AVal} (hu : u.V x (a.eval xo))
    {k : AVal → Ups → Option R} {z : R} (hk : actNil T get op t u (fun v => k v []) = some z) : ∃ u ups, k u ups = some z ∧ ActOk P o a w x u ups := by
  have ey : a.eval yo = .slice none 0 0 := by rw [isNilC_inv hy]; rfl
  unfold actNil at hk
  split at hk
  case h_2 => cases hk
  rename_i e hu2
  have hb := undOf_ok H.tbl hu2 (by simp)
  have fin : ∀ (ad : Addr) (l c : Nat), a.eval xo = .slice (some ad) l c → binEq op false (fun v => k v []) = some z → ∃ u ups, k u ups = some z ∧ ActOk P o a w x u ups := fun ad l c e1 hk => by
    have he : (Op.equal t (.slice (some ad) l c) (.slice none 0 0)).run P w = .ok false w := eqIn_slice_some 9999 ad l c hb
    exact binEq_ok H ho e1 ey run_guard_slice (by simp [binOp, he]) (by simp [binOp, he]) hk
  split at hk
  · rename_i p τ xs
    cases hx : List.isEmpty xs with
    | true => rw [hx] at hk; cases hk
    | false =>
      rw [hx] at hk
      have hlen : 0 < xs.length := by cases xs <;> simp at hx ⊢
      obtain ⟨base, len, cap, e1, e2, _, _, h5⟩ := (show Ty.Rel x.h (x.F p) (.slice τ) xs [a.eval xo] from hu)
      obtain ⟨b, off, e3, _⟩ := h5 (by omega)
      simp only [List.cons.injEq, and_true] at e1
      rw [e3] at e1
      exact fin _ _ _ e1 hk
  · rename_i r g
    split at hk
    case h_2 => cases hk
    rename_i g' τ xs ho2
    obtain ⟨hc, hk'⟩ := cond_some hk
    rw [Bool.and_eq_true] at hc
    obtain rfl := Nat.eq_of_beq_eq_true hc.1
    obtain ⟨c, e1, _, h1⟩ := (show (AVal.slc r g).C x [a.eval xo] from hu)
    simp only [List.cons.injEq, and_true] at e1
    have hob := obj_of_get H.mem (H.obj _ _ ho2)
    unfold SlcRel at h1
    rw [hob] at h1
    have h1 := h1.2 rfl
    have hm := H.mem.objs r
    rw [hob] at hm
    rcases hm with ⟨_, hnil⟩ | ⟨b, off, _, _, _, h2, _⟩
    · subst hnil; cases hc.2
    · rw [h2] at h1
      obtain ⟨cap, e2, _⟩ := h1
      exact fin _ _ _ (e1.trans e2) hk'
  · rename_i r g lo len ex
    split at hk
    case h_2 => cases hk
    rename_i g' τ xs ho2
    obtain ⟨hc, hk'⟩ := cond_some hk
    rw [Bool.and_eq_true] at hc
    obtain rfl := Nat.eq_of_beq_eq_true hc.1
    obtain ⟨c, e1, _, h1⟩ := (show (AVal.sub r g lo len ex).C x [a.eval xo] from hu)
    simp only [List.cons.injEq, and_true] at e1
    have hob := obj_of_get H.mem (H.obj _ _ ho2)
    unfold SubRel at h1
    rw [hob] at h1
    obtain ⟨_, base, cap, e2, h2, _, _, h5, _⟩ := h1.2 rfl
    have hl : 0 < len := by simpa [Nat.blt_eq] using hc.2
    cases base with
    | none => have := h5 rfl; omega
    | some ad => exact fin _ _ _ (e1.trans e2) hk'
  · cases hk
end
end Go.Am

/- The abstract machine, eighteenth part, yet more: maps. -/
namespace Go.Am

/-! ### As plain data: entries in the order in which they came, their stamps, the next stamp -/
section
variable (K V : Ty)

/-- Where a key stands. -/
def midx (k : K.den) : List (K.den × V.den) → Option Nat
  | [] => none
  | e :: l => bif K.eqB k e.1 then some 0 else match midx k l with
    | some i => some (i + 1)
    | none => none

def mfind (k : K.den) : List (K.den × V.den) → Option V.den
  | [] => none
  | e :: l => bif K.eqB k e.1 then some e.2 else mfind k l

abbrev MD : Type := List (K.den × V.den) × List Nat × Nat

def mput (k : K.den) (v : V.den) (d : MD K V) : MD K V := match midx K V k d.1 with
  | some i => (d.1.set i (k, v), d.2.1, d.2.2)
  | none => (d.1 ++ [(k, v)], d.2.1 ++ [d.2.2], d.2.2 + 1)

/-- The entry of a key, made if it is not there: the value, the stamp; the map behind it. -/
def ment (k : K.den) (z : V.den) (d : MD K V) : (V.den × Int) × MD K V := match midx K V k d.1 with
  | some i => ((match d.1[i]? with | some e => e.2 | none => z, (d.2.1.getD i 0 : Nat)), d)
  | none => ((z, (d.2.2 : Nat)), (d.1 ++ [(k, z)], d.2.1 ++ [d.2.2], d.2.2 + 1))

/-- The value of the entry with a stamp. -/
def mstore (s : Int) (v : V.den) (d : MD K V) : Option (MD K V) := match d.2.1.findIdx? (fun (b : Nat) => (b : Int) == s) with
  | some i => some (d.1.modify i (fun e => (e.1, v)), d.2.1, d.2.2)
  | none => none

def mdel (k : K.den) (d : MD K V) : MD K V := match midx K V k d.1 with
  | some i => (d.1.eraseIdx i, d.2.1.eraseIdx i, d.2.2)
  | none => d

theorem mfind_idx (k : K.den) : ∀ l : List (K.den × V.den), mfind K V k l = (midx K V k l).bind fun i => l[i]?.map (·.2)
  | [] => rfl
  | e :: l => by
    simp only [mfind, midx]
    cases K.eqB k e.1
    · simp only [cond_false, mfind_idx k l]
      cases midx K V k l <;> simp
    · simp
theorem midx_lt (k : K.den) : ∀ (l : List (K.den × V.den)) (i : Nat), midx K V k l = some i → i < l.length
  | [], i, h => by cases h
  | e :: l, i, h => by
    simp only [midx] at h
    cases hk : K.eqB k e.1 with
    | true => rw [hk] at h; cases h; simp
    | false =>
      rw [hk] at h
      simp only [cond_false] at h
      split at h
      · rename_i j hj
        cases h
        have := midx_lt k l j hj
        simp only [List.length_cons]; omega
      · cases h
end

section
variable {P : Program} {T : Tbl} {ρ : Operand → Option AVal} {get : Nat → Option AObj} {a : Act} {w : World} {x : Ctx} {R : Type}

/-- Which keys are told of: ints, and two of them in a struct. -/
def keyFits (T : Tbl) (K : Ty) (kt : TypeId) : Bool := match K with
  | .int _ => fits T K kt
  | .pair (.int _) (.int _) => fits T K kt && seqCmp T K [(0, kt)]
  | _ => false

/-- What of a map's key is the same value. -/
theorem key_same {K : Ty} {kt : TypeId} (hf : keyFits T K kt = true) {k k' : K.den} (h : K.eqB k k' = true) : k = k' := by
  unfold keyFits at hf
  split at hf
  · exact of_decide_eq_true h
  · obtain ⟨a, b⟩ := k
    obtain ⟨c, d⟩ := k'
    simp only [Ty.eqB, Bool.and_eq_true, decide_eq_true_eq] at h
    rw [h.1, h.2]
  · cases hf

theorem key_val {K : Ty} {kt : TypeId} (hf : keyFits T K kt = true) {p q : Bool} {k : K.den} {u v : Value} (h : (AVal.dat p K k).V x u) (g : (AVal.dat q K k).V x v) : u = v := by
  unfold keyFits at hf
  split at hf
  · rw [V_int.1 h, V_int.1 g]
  · obtain ⟨cs, ⟨c1, c2, e1, e2, e3⟩, e4⟩ := V_dat h
    obtain ⟨ds, ⟨d1, d2, f1, f2, f3⟩, f4⟩ := V_dat g
    simp only [Ty.Rel] at e2 e3 f2 f3
    subst e2; subst e3; subst f2; subst f3
    rw [e4, f4, e1, f1]
  · cases hf

theorem key_bits {K : Ty} {kt : TypeId} (hf : keyFits T K kt = true) {p : Bool} {k : K.den} {u : Value} (h : (AVal.dat p K k).V x u) : Instr.sameBits 10000 u u = true := by
  unfold keyFits at hf
  split at hf
  · rw [V_int.1 h]; simp [Instr.sameBits]
  · obtain ⟨cs, ⟨c1, c2, e1, e2, e3⟩, e4⟩ := V_dat h
    simp only [Ty.Rel] at e2 e3
    subst e2; subst e3
    rw [e4, e1]
    simp [valueOf, Ty.agg, Instr.sameBits]
  · cases hf

theorem key_check (hT : TblOk P T) {K : Ty} {kt : TypeId} (hf : keyFits T K kt = true) {p : Bool} {k : K.den} {u : Value} (h : (AVal.dat p K k).V x u) (em : Bool) : (Instr.checkKey em 10000 kt u).run P w = .ok () w := by
  unfold keyFits at hf
  split at hf
  · rename_i kd
    unfold fits at hf
    simp only [seqFits] at hf
    split at hf
    · rename_i k' he
      obtain ⟨_, d, h2, h3, _⟩ := hd?_inv he
      have hu := (hT _ _ h2).und
      rw [h3] at hu
      obtain rfl : kd = k' := by simpa using hf
      rw [V_int.1 h]
      exact MapKept.run_checkKey (d := .int kd) (k := .int kd k) hu (show MapKept.IsKey _ _ from rfl) em 9999
    · cases hf
  · rename_i ka kb
    rw [Bool.and_eq_true] at hf
    obtain ⟨cs, ⟨c1, c2, e1, e2, e3⟩, e4⟩ := V_dat h
    simp only [Ty.Rel] at e2 e3
    subst e2; subst e3
    have hf1 := hf.1
    unfold fits seqFits at hf1
    split at hf1
    · rename_i g h0 fs he
      rw [Bool.and_eq_true] at hf1
      obtain ⟨_, d, h2, h3, _⟩ := hd?_inv he
      have hu := (hT _ _ h2).und
      rw [h3] at hu
      obtain ⟨fields, u1, u2, u3⟩ := hu
      have hfs : fs = [] := by
        cases fs with
        | nil => rfl
        | cons _ _ => have := hf1.2; unfold seqFits at this; cases this
      subst hfs
      obtain ⟨f1, f2, hfl⟩ : ∃ f1 f2, fields = #[f1, f2] := by
        obtain ⟨l⟩ := fields
        match l, u2 with
        | [f1, f2], _ => exact ⟨f1, f2, rfl⟩
      subst hfl
      simp only [List.map_cons, List.map_nil, List.cons.injEq, and_true] at u2
      obtain ⟨rfl, rfl⟩ := u2
      obtain ⟨o1, d1, t1, g1, s1⟩ := seqFits_one hf1.1
      obtain ⟨o2, d2, t2, g2, s2⟩ := seqFits_one hf1.2
      have i1 : P.underlying f1.type = some (.int ka) := by
        have := hf1.1
        unfold seqFits at this
        split at this
        · rename_i k' he
          obtain ⟨_, d, h2, h3, _⟩ := hd?_inv he
          have hu := (hT _ _ h2).und
          rw [h3] at hu
          obtain rfl : ka = k' := by simpa using this
          exact hu
        · cases this
      have i2 : P.underlying f2.type = some (.int kb) := by
        have := hf1.2
        unfold seqFits at this
        split at this
        · rename_i k' he
          obtain ⟨_, d, h2, h3, _⟩ := hd?_inv he
          have hu := (hT _ _ h2).und
          rw [h3] at hu
          obtain rfl : kb = k' := by simpa using this
          exact hu
        · cases this
      have n1 := u3 f1 (by simp)
      have n2 := u3 f2 (by simp)
      simp only at o1 o2
      have v1 := part_at hT t1 (w := w) (c := cs.toArray) (pre := []) (mid := [.int ka k.1]) (post := [.int kb k.2]) (by rw [e1]; rfl) s1 (fun _ => rfl)
      have v2 := part_at hT t2 (w := w) (c := cs.toArray) (pre := [.int ka k.1]) (mid := [.int kb k.2]) (post := []) (by rw [e1]; rfl) s2 (fun _ => rfl)
      rw [show d1.und.agg = false from g1] at v1
      rw [show d2.und.agg = false from g2] at v2
      have c1 := MapKept.run_checkKey (w := w) (k := .int ka k.1) i1 (show MapKept.IsKey _ _ from rfl) em 9998
      have c2 := MapKept.run_checkKey (w := w) (k := .int kb k.2) i2 (show MapKept.IsKey _ _ from rfl) em 9998
      have v1 : (part f1.type cs.toArray f1.offset).run P w = .ok (.int ka k.1) w := by rw [o1]; exact v1
      have v2 : (part f2.type cs.toArray f2.offset).run P w = .ok (.int kb k.2) w := by rw [o2]; exact v2
      rw [e4]
      simp only [valueOf, Ty.agg, if_true]
      rw [Instr.checkKey]
      simp [run_underlying u1, n1, n2, v1, v2, c1, c2]
    · cases hf1
  · cases hf

/-- Two keys, compared. -/
theorem key_equal (hT : TblOk P T) {K : Ty} {kt : TypeId} (hf : keyFits T K kt = true) {p q : Bool} {k k' : K.den} {u v : Value} (h : (AVal.dat p K k).V x u) (g : (AVal.dat q K k').V x v) : (Op.equal kt u v).run P w = .ok (K.eqB k k') w := by
  unfold keyFits at hf
  split at hf
  · rename_i kd
    obtain ⟨cs, r1, e1⟩ := V_dat h
    obtain ⟨ds, r2, e2⟩ := V_dat g
    rw [e1, e2]
    exact (eq_sound hT w (.int kd)).1 (0, kt) 0 10000 k k' cs ds hf rfl r1 r2 (by simp [Ty.depth])
  · rename_i ka kb
    rw [Bool.and_eq_true] at hf
    obtain ⟨cs, r1, e1⟩ := V_dat h
    obtain ⟨ds, r2, e2⟩ := V_dat g
    rw [e1, e2]
    exact (eq_sound hT w (.pair (.int ka) (.int kb))).1 (0, kt) 0 10000 k k' cs ds hf.1 hf.2 r1 r2 (by simp [Ty.depth])
  · cases hf

theorem asking (hT : TblOk P T) {K V : Ty} {kt : TypeId} (hf : keyFits T K kt = true) {p : Bool} {k : K.den} {u : Value} (h : (AVal.dat p K k).V x u) : ∀ (m : List (K.den × V.den)) (es : List MapEntry) (i : Nat), All2 (EntryRel x K V) m es →
    (Instr.findAsking kt u es i).run P w = .ok ((midx K V k m).bind fun j => (es[j]?).map fun e => (i + j, e.val)) w
  | [], es, i, A => by
    obtain rfl : es = [] := List.length_eq_zero_iff.1 A.1.symm
    rfl
  | e :: m, es, i, A => by
    obtain ⟨c, es, rfl, hc, A⟩ := A.cons_inv
    simp only [Instr.findAsking, Sem.run_bind, key_equal hT hf h hc.1, Result.andThen_ok, midx]
    cases K.eqB k e.1
    · simp only [Bool.false_eq_true, if_false, cond_false, asking hT hf h m es (i + 1) A]
      cases midx K V k m with
      | none => rfl
      | some j => simp [Nat.add_assoc, Nat.add_comm 1 j]
    · simp

theorem now {K V : Ty} {kd : IntKind} (hK : K = .int kd) {p : Bool} {k : K.den} {u : Value} (h : (AVal.dat p K k).V x u) : ∀ (m : List (K.den × V.den)) (es : List MapEntry) (i : Nat), All2 (EntryRel x K V) m es →
    Instr.findNow (.int kd) u es i = some ((midx K V k m).bind fun j => (es[j]?).map fun e => (i + j, e.val))
  | [], es, i, A => by
    obtain rfl : es = [] := List.length_eq_zero_iff.1 A.1.symm
    rfl
  | e :: m, es, i, A => by
    obtain ⟨c, es, rfl, hc, A⟩ := A.cons_inv
    have ih := now hK h m es (i + 1) A
    subst hK
    have h1 := V_int.1 h
    have h2 := V_int.1 hc.1
    subst h1
    simp only [Instr.findNow, h2, Instr.sameNow, if_true, midx, Ty.eqB]
    by_cases e0 : k = e.1
    · rw [show (k == e.1) = true from beq_iff_eq.2 e0, decide_eq_true e0]; simp
    · rw [show (k == e.1) = false from beq_eq_false_iff_ne.2 e0, decide_eq_false e0]
      simp only [ih, cond_false]
      cases midx (.int kd) V k m with
      | none => rfl
      | some j => simp [Nat.add_assoc, Nat.add_comm 1 j]

theorem find_ok (hT : TblOk P T) {K V : Ty} {kt : TypeId} (hf : keyFits T K kt = true) {p : Bool} {k : K.den} {u : Value} (h : (AVal.dat p K k).V x u) {m : List (K.den × V.den)} {es : List MapEntry} (A : All2 (EntryRel x K V) m es) :
    (Instr.findKey kt u es).run P w = .ok ((midx K V k m).bind fun j => (es[j]?).map fun e => (j, e.val)) w := by
  have h1 := asking (w := w) hT hf h m es 0 A
  simp only [Nat.zero_add] at h1
  have hf0 := hf
  unfold keyFits at hf0
  split at hf0
  · rename_i kd
    unfold fits at hf0
    simp only [seqFits] at hf0
    split at hf0
    · rename_i k' he
      obtain ⟨_, d, h2, h3, _⟩ := hd?_inv he
      have hu := (hT _ _ h2).und
      rw [h3] at hu
      obtain rfl : kd = k' := by simpa using hf0
      have h2 := now rfl h m es 0 A
      simp only [Nat.zero_add] at h2
      exact MapKept.run_findKey (d := .int kd) hu h2
    · cases hf0
  · rename_i ka kb
    rw [Bool.and_eq_true] at hf0
    have hf1 := hf0.1
    unfold fits seqFits at hf1
    split at hf1
    · rename_i g h0 fs he
      obtain ⟨_, d, h2, h3, _⟩ := hd?_inv he
      have hu := (hT _ _ h2).und
      rw [h3] at hu
      obtain ⟨fields, u1, _, _⟩ := hu
      exact (run_findKey_eq (P := P) (w := w) (k := kt) (by rw [show P.underlying kt = _ from u1]) u es).trans h1
    · cases hf1
  · cases hf0
end
end Go.Am

/- The abstract machine, eighteenth part, at last: what is done with maps. -/
namespace Go.Am
section defs
variable {R : Type} (T : Tbl) (get : Nat → Option AObj)

def actMakeMap (base : Nat) (t : TypeId) (k : AVal → Ups → Option R) : Option R :=
  match undOf T t with
  | .map kt et => match tyOf T 12 kt, tyOf T 12 et, get base with
    | some K, some V, some .free => k (.map base) [(base, .map K V [] [] 0)]
    | _, _, _ => none
  | _ => none

/-- A map, a key, the zero of its values. -/
def mapK (t : TypeId) (v u : AVal) (k : (r : Nat) → (K V : Ty) → MD K V → K.den → V.den → Option R) : Option R :=
  match undOf T t with
  | .map kt et => match v with
    | .map r => match get r, T et with
      | some (.map K V m bs clk), some ed => match toDat K u, toDat V ed.zero with
        | some kd, some z => bif keyFits T K kt then k r K V (m, bs, clk) kd z else none
        | _, _ => none
      | _, _ => none
    | _ => none
  | _ => none

def actLookup (t : TypeId) (v u : AVal) (ok : Bool) (k : AVal → Ups → Option R) : Option R :=
  mapK T get t v u fun _ K V d kd z => bif ok
    then k (.tup (.cons (.dat true V ((mfind K V kd d.1).getD z)) (.cons (.dat true .bool (mfind K V kd d.1).isSome) .nil))) []
    else k (.dat true V ((mfind K V kd d.1).getD z)) []

def actMapUpdate (t : TypeId) (v u y : AVal) (k : AVal → Ups → Option R) : Option R :=
  mapK T get t v u fun r K V d kd _ => match toDat V y with
    | some yd => k (.tup .nil) [(r, .map K V (mput K V kd yd d).1 (mput K V kd yd d).2.1 (mput K V kd yd d).2.2)]
    | none => none

def actMapEntry (t : TypeId) (v u : AVal) (k : AVal → Ups → Option R) : Option R :=
  mapK T get t v u fun r K V d kd z => k (.tup (.cons (.dat true V (ment K V kd z d).1.1) (.cons (.dat true (.int .i64) (ment K V kd z d).1.2) .nil)))
    [(r, .map K V (ment K V kd z d).2.1 (ment K V kd z d).2.2.1 (ment K V kd z d).2.2.2)]

def actEntryStore (v s y : AVal) (k : AVal → Ups → Option R) : Option R :=
  match v with
  | .map r => match get r with
    | some (.map K V m bs clk) => match s, toDat V y with
      | .dat _ (.int _) n, some yd => match mstore K V n yd (m, bs, clk) with
        | some e => k (.tup .nil) [(r, .map K V e.1 e.2.1 e.2.2)]
        | none => none
      | _, _ => none
    | _ => none
  | _ => none

def actDelete (t : TypeId) (v u : AVal) (k : AVal → Ups → Option R) : Option R :=
  mapK T get t v u fun r K V d kd _ => k (.tup .nil) [(r, .map K V (mdel K V kd d).1 (mdel K V kd d).2.1 (mdel K V kd d).2.2)]
end defs

section
variable {P : Program} {T : Tbl} {ρ : Operand → Option AVal} {get : Nat → Option AObj} {a : Act} {w : World} {x : Ctx} {R : Type}

/-- The state behind a change of a map. -/
theorem goes_map (M : Mem x) (hh : x.h = fun b => w.heap[b]?) {r : Nat} {K V : Ty} {m m' : List (K.den × V.den)} {bs bs' : List Nat} {clk clk' : Nat} (h0 : x.σ[r]? = some (.map K V m bs clk)) {blk : Nat} {es es' : Array MapEntry}
    (h1 : x.μ r = some ⟨blk, 0, none⟩) (h2 : x.h blk = some (.map es clk)) (A : All2 (EntryRel x K V) m' es'.toList) (hb : es'.toList.map (·.born) = bs') :
    Goes x w (x.wrote blk (.map es' clk') r (.map K V m' bs' clk')) { w with heap := w.heap.setIfInBounds blk (.map es' clk') } := by
  have hobj := obj_of_get M h0
  have hk : Keeps x (x.wrote blk (.map es' clk') r (.map K V m' bs' clk')) r := by
    refine ⟨fun g p c hp => ?_, fun g c1 hp => ?_, fun g lo len ex c hp => ?_, fun c hp => ?_⟩
    · unfold PtrRel; rw [wrote_obj M h0 rfl rfl, if_pos rfl]; trivial
    · unfold SlcRel; rw [wrote_obj M h0 rfl rfl, if_pos rfl]; trivial
    · unfold SubRel; rw [wrote_obj M h0 rfl rfl, if_pos rfl]; trivial
    · unfold MapRel at hp ⊢; rw [wrote_obj M h0 rfl rfl, if_pos rfl]; rw [hobj] at hp; exact hp
  have U0 : Upd0 x (x.wrote blk (.map es' clk') r (.map K V m' bs' clk')) r := {
    S := rfl
    at_ := rfl
    pl := rfl
    low := M.low h0
    len := List.length_set
    obj := fun r' hr => by rw [wrote_obj M h0 rfl rfl, if_neg hr]
    μ := fun r' hr => rfl
    h := fun b hs hne => if_neg fun e => hne _ (by rw [hobj]; rfl) h1 e.symm
    keep := hk
    blk := fun a' hl' ha' => .inl ⟨a', by rw [hobj]; rfl, ha', rfl⟩ }
  have U : Upd x (x.wrote blk (.map es' clk') r (.map K V m' bs' clk')) r := ⟨U0, by
    rw [wrote_obj M h0 rfl rfl, if_pos rfl]
    exact ⟨blk, es', h1, if_pos rfl, A.mono fun _ _ h => ⟨DatV.congr (U0.hS M) h.1, DatV.congr (U0.hS M) h.2⟩, hb⟩⟩
  have hwb : w.heap[blk]? = some (.map es clk) := by have := hh ▸ h2; exact this
  refine U.goes M hh ?_ rfl rfl rfl (by simp)
  funext b
  show (if b = blk then _ else x.h b) = (w.heap.setIfInBounds blk _)[b]?
  have hs := MapKept.heap_set (o' := .map es' clk') hwb
  by_cases e : b = blk
  · rw [if_pos e, e, hs.1]
  · rw [if_neg e, hs.2 b e, hh]

/-- What is met of a map and a key. -/
theorem mapK_ok (H : Meets P T ρ get a w x) {t : TypeId} {v u : AVal} {vv vu : Value} (hv : v.V x vv) (hu : u.V x vu) {k : (r : Nat) → (K V : Ty) → MD K V → K.den → V.den → Option R} {z : R} (hk : mapK T get t v u k = some z) :
    ∃ r K V m bs clk kd zd kt et blk es ed, k r K V (m, bs, clk) kd zd = some z ∧ P.underlying t = some (.map kt et) ∧ keyFits T K kt = true ∧ (AVal.dat true K kd).V x vu ∧ T et = some ed ∧ toDat V ed.zero = some zd ∧
      x.σ[r]? = some (.map K V m bs clk) ∧ x.μ r = some ⟨blk, 0, none⟩ ∧ x.h blk = some (.map es clk) ∧ w.heap[blk]? = some (.map es clk) ∧ vv = .map (some blk) ∧ All2 (EntryRel x K V) m es.toList ∧ es.toList.map (·.born) = bs := by
  unfold mapK at hk
  split at hk
  case h_2 => cases hk
  rename_i kt et hut
  have ht : P.underlying t = some (.map kt et) := undOf_ok H.tbl hut (by simp)
  split at hk
  case h_2 => cases hk
  rename_i r
  split at hk
  case h_2 => cases hk
  rename_i K V m bs clk ed hg hed
  split at hk
  case h_2 => cases hk
  rename_i kd zd hkd hzd
  obtain ⟨hf, hk⟩ := cond_some hk
  have h0 := H.obj r _ hg
  have hobj := obj_of_get H.mem h0
  obtain ⟨c0, hc0, _, hr⟩ := (show (AVal.map r).C x [vv] from hv)
  simp only [List.cons.injEq, and_true] at hc0
  unfold MapRel at hr
  rw [hobj] at hr
  obtain ⟨a0, h1, e1⟩ := hr
  have hrel := H.mem.objs r
  rw [hobj] at hrel
  obtain ⟨b, es, h2, h3, h4, h5⟩ := hrel
  rw [h2] at h1; cases h1
  exact ⟨r, K, V, m, bs, clk, kd, zd, kt, et, b, es, ed, hk, ht, hf, toDat_V hkd hu, hed, hzd, h0, h2, h3, heap_at H h3, by rw [hc0, e1], h4, h5⟩

theorem midx_eq {K V : Ty} (k : K.den) : ∀ (l : List (K.den × V.den)) (i : Nat) {e : K.den × V.den}, midx K V k l = some i → l[i]? = some e → K.eqB k e.1 = true
  | [], i, _, h, _ => by cases h
  | e :: l, i, _, h, g => by
    simp only [midx] at h
    cases hk : K.eqB k e.1 with
    | true => rw [hk] at h; cases h; cases g; exact hk
    | false =>
      rw [hk] at h
      simp only [cond_false] at h
      split at h
      · rename_i j hj
        cases h
        exact midx_eq k l j hj (by simpa using g)
      · cases h

theorem idx_entry {K V : Ty} {m : List (K.den × V.den)} {es : List MapEntry} (A : All2 (EntryRel x K V) m es) {kd : K.den} {i : Nat} (h : midx K V kd m = some i) : ∃ e c, m[i]? = some e ∧ es[i]? = some c ∧ EntryRel x K V e c ∧ K.eqB kd e.1 = true := by
  have hl := midx_lt K V kd m i h
  have hl2 : i < es.length := A.1 ▸ hl
  exact ⟨_, _, List.getElem?_eq_getElem hl, List.getElem?_eq_getElem hl2, A.2 i _ _ (List.getElem?_eq_getElem hl) (List.getElem?_eq_getElem hl2), midx_eq kd m i h (List.getElem?_eq_getElem hl)⟩

theorem two_V {u : AVal} {b : Bool} {fv : Value} {fb : Bool} (h : u.V x fv) (e : fb = b) : (AVal.tup (.cons u (.cons (.dat true .bool b) .nil))).V x (.tuple #[fv, .bool fb]) := by
  subst e
  exact ⟨[fv, .bool fb], rfl, fv, [.bool fb], rfl, h, .bool fb, [], rfl, rfl, rfl⟩

theorem actLookup_ok (H : Meets P T ρ get a w x) {o : Oper} {t : TypeId} {vo uo : Operand} {ok : Bool} (ho : o.op = .lookup t vo uo ok) {v u : AVal} (hv : v.V x (a.eval vo)) (hu : u.V x (a.eval uo)) {k : AVal → Ups → Option R} {z : R}
    (hk : actLookup T get t v u ok k = some z) : ∃ u ups, k u ups = some z ∧ ActOk P o a w x u ups := by
  obtain ⟨r, K, V, m, bs, clk, kd, zd, kt, et, blk, es, ed, hk, ht, hf, hkd, hed, hzd, h0, h1, h2, h3, e1, A, hb⟩ := mapK_ok H hv hu hk
  obtain ⟨zv, hz, hzv⟩ := (H.tbl et ed hed).zeroValue (w := w)
  have hfind := find_ok (w := w) H.tbl hf hkd A
  have hcheck := key_check (w := w) H.tbl hf hkd es.isEmpty
  -- the value that is found
  obtain ⟨fv, fok, hrun, hfv, hfok⟩ : ∃ fv fok, (Instr.lookup t (a.eval vo) (a.eval uo) ok).run P w = .ok (if ok then .tuple #[fv, .bool fok] else fv) w ∧ (AVal.dat true V ((mfind K V kd m).getD zd)).V x fv ∧ fok = (mfind K V kd m).isSome := by
    unfold Instr.lookup
    simp only [Sem.run_bind, run_underlying ht, Result.andThen_ok, e1, MapKept.run_getObj_map h3, Sem.run_pure, hcheck, hfind]
    rw [mfind_idx]
    cases hi : midx K V kd m with
    | none => exact ⟨zv, false, by simp [hz], toDat_V hzd (hzv x), rfl⟩
    | some i =>
      obtain ⟨e, c, hm, hc, hr, hq⟩ := idx_entry A hi
      have hc' : es[i]? = some c := by simpa using hc
      refine ⟨c.val, true, ?_, ?_, by simp [hm]⟩
      · simp [hc']
      · simp only [Option.bind_some, hm, Option.map_some, Option.getD_some]
        exact hr.2
  have hex : (execOp a.eval o).run P w = .ok (.value (if ok then .tuple #[fv, .bool fok] else fv)) w := by
    simp only [execOp, ho, Sem.run_bind, hrun, Result.andThen_ok, Sem.run_pure]
  cases ok with
  | false => exact ⟨_, _, hk, ActOk.value H.mem H.h hex hfv⟩
  | true =>
    exact ⟨_, _, hk, ActOk.value H.mem H.h hex (two_V hfv hfok)⟩

/-- What is done to a map. -/
theorem map_done (H : Meets P T ρ get a w x) {o : Oper} {r : Nat} {K V : Ty} {m m' : List (K.den × V.den)} {bs bs' : List Nat} {clk clk' : Nat} (h0 : x.σ[r]? = some (.map K V m bs clk)) {blk : Nat} {es es' : Array MapEntry}
    (h1 : x.μ r = some ⟨blk, 0, none⟩) (h2 : x.h blk = some (.map es clk)) (A : All2 (EntryRel x K V) m' es'.toList) (hb : es'.toList.map (·.born) = bs')
    (hrun : (execOp a.eval o).run P w = .ok .skip { w with heap := w.heap.setIfInBounds blk (.map es' clk') }) : ActOk P o a w x (.tup .nil) [(r, .map K V m' bs' clk')] := by
  intro next Q hnext
  unfold Oper.wp
  rw [hrun, Oper.upon_skip]
  exact hnext undef _ _ (goes_map H.mem H.h h0 h1 h2 A hb) rfl (show (AVal.tup .nil).C _ [.tuple #[]] from ⟨[], rfl, rfl⟩)

theorem all2_set {α β : Type} {Q : α → β → Prop} {xs : List α} {ys : List β} (A : All2 Q xs ys) {i : Nat} {u : α} {v : β} (h : Q u v) : All2 Q (xs.set i u) (ys.set i v) := by
  refine ⟨by simp [A.1], fun j p q hp hq => ?_⟩
  rw [List.getElem?_set] at hp hq
  split at hp
  · rename_i e
    subst e
    rw [if_pos rfl] at hq
    split at hp
    · cases hp
      split at hq
      · cases hq; exact h
      · cases hq
    · cases hp
  · rename_i e
    rw [if_neg e] at hq
    exact A.2 _ _ _ hp hq
theorem all2_push {α β : Type} {Q : α → β → Prop} {xs : List α} {ys : List β} (A : All2 Q xs ys) {u : α} {v : β} (h : Q u v) : All2 Q (xs ++ [u]) (ys ++ [v]) := by
  refine ⟨by simp [A.1], fun j p q hp hq => ?_⟩
  rw [List.getElem?_append] at hp hq
  rw [A.1] at hp
  split at hp
  · rename_i e; rw [if_pos e] at hq; exact A.2 _ _ _ hp hq
  · rename_i e
    rw [if_neg e] at hq
    cases hj : j - ys.length with
    | zero => rw [hj] at hp hq; cases hp; cases hq; exact h
    | succ n => rw [hj] at hp; cases hp
theorem all2_erase {α β : Type} {Q : α → β → Prop} : ∀ {xs : List α} {ys : List β} (_ : All2 Q xs ys) (i : Nat), All2 Q (xs.eraseIdx i) (ys.eraseIdx i)
  | [], ys, A, i => by
    obtain rfl : ys = [] := List.length_eq_zero_iff.1 A.1.symm
    simpa using A
  | x :: xs, ys, A, i => by
    obtain ⟨y, ys, rfl, h, A⟩ := A.cons_inv
    cases i with
    | zero => exact A
    | succ i => exact .cons h (all2_erase A i)

theorem all2_modify {α β : Type} {Q : α → β → Prop} {xs : List α} {ys : List β} (A : All2 Q xs ys) {i : Nat} {u : α} {c : β} (hc : ys[i]? = some c) {f : β → β} (h : Q u (f c)) : All2 Q (xs.set i u) (ys.modify i f) := by
  refine ⟨by simp [A.1], fun j p q hp hq => ?_⟩
  rw [List.getElem?_set] at hp
  rw [List.getElem?_modify] at hq
  split at hp
  · rename_i e
    subst e
    rw [hc] at hq
    split at hp
    · cases hp
      simp at hq
      subst hq; exact h
    · cases hp
  · rename_i e
    have : ys[j]? = some q := by
      cases hj : ys[j]? with
      | none => rw [hj] at hq; cases hq
      | some y => rw [hj] at hq; simp [e] at hq; rw [hq]
    exact A.2 _ _ _ hp this

theorem actMapUpdate_ok (H : Meets P T ρ get a w x) {o : Oper} {t : TypeId} {vo uo yo : Operand} (ho : o.op = .mapUpdate t vo uo yo) {v u y : AVal} (hv : v.V x (a.eval vo)) (hu : u.V x (a.eval uo)) (hy : y.V x (a.eval yo)) {k : AVal → Ups → Option R} {z : R}
    (hk : actMapUpdate T get t v u y k = some z) : ∃ u ups, k u ups = some z ∧ ActOk P o a w x u ups := by
  obtain ⟨r, K, V, m, bs, clk, kd, zd, kt, et, blk, es, ed, hk, ht, hf, hkd, hed, hzd, h0, h1, h2, h3, e1, A, hb⟩ := mapK_ok H hv hu hk
  split at hk
  case h_2 => cases hk
  rename_i yd hyd
  refine ⟨_, _, hk, ?_⟩
  have hyv := toDat_V hyd hy
  have hfind := find_ok (w := w) H.tbl hf hkd A
  have hcheck := key_check (w := w) H.tbl hf hkd false
  have hset := fun o' => MapKept.run_setObj_map (P := P) (w := w) o' h3
  unfold mput
  cases hi : midx K V kd m with
  | none =>
    refine map_done H h0 h1 h2 (es' := es.push { key := a.eval uo, val := a.eval yo, born := clk }) (clk' := clk + 1) ?_ ?_ ?_
    · simp only [Array.toList_push]; exact all2_push A ⟨hkd, hyv⟩
    · simp [hb]
    · simp only [execOp, ho, Instr.mapUpdate, Sem.run_bind, run_underlying ht, Result.andThen_ok, e1, MapKept.run_getObj_map h3, hcheck, hfind, hi, Option.bind_none, hset, Sem.run_pure]
  | some i =>
    obtain ⟨e, c, hm, hc, hr, hq⟩ := idx_entry A hi
    have hc' : es[i]? = some c := by simpa using hc
    have hsame : c.key = a.eval uo := by
      have hk1 : (AVal.dat true K e.1).V x (a.eval uo) := by rw [← key_same hf hq]; exact hkd
      exact key_val hf hr.1 hk1
    have hstay : (Instr.keyThatStays c.key (a.eval uo)).run P w = .ok (a.eval uo) w := by
      unfold Instr.keyThatStays
      rw [hsame, key_bits hf hkd]; rfl
    refine map_done H h0 h1 h2 (es' := es.modify i fun e => { e with key := a.eval uo, val := a.eval yo }) (clk' := clk) ?_ ?_ ?_
    · rw [Array.toList_modify]
      exact all2_modify A hc ⟨hkd, hyv⟩
    · rw [Array.toList_modify, ← hb]
      apply List.ext_getElem?
      intro j
      simp only [List.getElem?_map, List.getElem?_modify]
      cases es.toList[j]? <;> simp
      split <;> rfl
    · simp only [execOp, ho, Instr.mapUpdate, Sem.run_bind, run_underlying ht, Result.andThen_ok, e1, MapKept.run_getObj_map h3, hcheck, hfind, hi, Option.bind_some, hc, Option.map_some, hc', Option.getD_some, hstay, hset, Sem.run_pure]

theorem set_same {α : Type} {l : List α} {i : Nat} {e : α} (h : l[i]? = some e) : l.set i e = l := by
  apply List.ext_getElem?
  intro j
  rw [List.getElem?_set]
  split
  · rename_i ij
    subst ij
    rw [h]
    split
    · rfl
    · rename_i g; rw [List.getElem?_eq_none (by omega)] at h; cases h
  · rfl
theorem pair_V {V : Ty} {vd : V.den} {n : Int} {fv : Value} {fn : Value} (h : (AVal.dat true V vd).V x fv) (e : fn = .int .i64 n) : (AVal.tup (.cons (.dat true V vd) (.cons (.dat true (.int .i64) n) .nil))).V x (.tuple #[fv, fn]) := by
  subst e
  exact ⟨[fv, .int .i64 n], rfl, fv, [.int .i64 n], rfl, h, .int .i64 n, [], rfl, rfl, rfl⟩

theorem actMapEntry_ok (H : Meets P T ρ get a w x) {o : Oper} {t : TypeId} {vo uo : Operand} (ho : o.op = .mapEntry t vo uo) {v u : AVal} (hv : v.V x (a.eval vo)) (hu : u.V x (a.eval uo)) {k : AVal → Ups → Option R} {z : R}
    (hk : actMapEntry T get t v u k = some z) : ∃ u ups, k u ups = some z ∧ ActOk P o a w x u ups := by
  obtain ⟨r, K, V, m, bs, clk, kd, zd, kt, et, blk, es, ed, hk, ht, hf, hkd, hed, hzd, h0, h1, h2, h3, e1, A, hb⟩ := mapK_ok H hv hu hk
  refine ⟨_, _, hk, ?_⟩
  have hfind := find_ok (w := w) H.tbl hf hkd A
  have hcheck := key_check (w := w) H.tbl hf hkd false
  have hset := fun o' => MapKept.run_setObj_map (P := P) (w := w) o' h3
  have done : ∀ (m' : List (K.den × V.den)) (bs' : List Nat) (clk' : Nat) (es' : Array MapEntry) (val : Value) (vd : V.den) (n : Nat), All2 (EntryRel x K V) m' es'.toList → es'.toList.map (·.born) = bs' → (AVal.dat true V vd).V x val →
      (execOp a.eval o).run P w = .ok (.value (.tuple #[val, goInt n])) { w with heap := w.heap.setIfInBounds blk (.map es' clk') } →
      ActOk P o a w x (.tup (.cons (.dat true V vd) (.cons (.dat true (.int .i64) (n : Int)) .nil))) [(r, .map K V m' bs' clk')] := by
    intro m' bs' clk' es' val vd n A' hb' hval hrun next Q hnext
    unfold Oper.wp
    rw [hrun, Oper.upon_value]
    have G := goes_map (clk' := clk') H.mem H.h h0 h1 h2 A' hb'
    exact hnext _ _ _ G rfl (pair_V (DatV.congr G.S hval) rfl)
  unfold ment
  cases hi : midx K V kd m with
  | none =>
    obtain ⟨zv, hz, hzv⟩ := (H.tbl et ed hed).zeroValue (w := w)
    refine done _ _ _ (es.push { key := a.eval uo, val := zv, born := clk }) zv zd clk ?_ ?_ (toDat_V hzd (hzv x)) ?_
    · simp only [Array.toList_push]; exact all2_push A ⟨hkd, toDat_V hzd (hzv x)⟩
    · simp [hb]
    · simp only [execOp, ho, Instr.mapEntry, Sem.run_bind, run_underlying ht, Result.andThen_ok, e1, MapKept.run_getObj_map h3, hcheck, hfind, hi, Option.bind_none, hz, hset, Sem.run_pure]
  | some i =>
    obtain ⟨e, c, hm, hc, hr, hq⟩ := idx_entry A hi
    have hc' : es[i]? = some c := by simpa using hc
    have hsame : c.key = a.eval uo := by
      have hk1 : (AVal.dat true K e.1).V x (a.eval uo) := by rw [← key_same hf hq]; exact hkd
      exact key_val hf hr.1 hk1
    have hstay : (Instr.keyThatStays c.key (a.eval uo)).run P w = .ok (a.eval uo) w := by
      unfold Instr.keyThatStays
      rw [hsame, key_bits hf hkd]; rfl
    have hbi : bs.getD i 0 = c.born := by rw [← hb, List.getD_eq_getElem?_getD, List.getElem?_map, hc]; rfl
    simp only [hm]
    rw [hbi]
    refine done _ _ _ (es.modify i fun e => { e with key := a.eval uo }) c.val e.2 c.born ?_ ?_ hr.2 ?_
    · rw [Array.toList_modify]
      have := all2_modify (u := e) (f := fun e => { e with key := a.eval uo }) A hc ⟨by rw [← hsame]; exact hr.1, hr.2⟩
      rw [show m.set i e = m from set_same hm] at this
      exact this
    · rw [Array.toList_modify, ← hb]
      apply List.ext_getElem?
      intro j
      simp only [List.getElem?_map, List.getElem?_modify]
      cases es.toList[j]? <;> simp
      split <;> rfl
    · simp only [execOp, ho, Instr.mapEntry, Sem.run_bind, run_underlying ht, Result.andThen_ok, e1, MapKept.run_getObj_map h3, hcheck, hfind, hi, Option.bind_some, hc, Option.map_some, hc', Option.getD_some, hstay, hset, Sem.run_pure]

theorem map_erase {α β : Type} (f : α → β) : ∀ (l : List α) (i : Nat), (l.eraseIdx i).map f = (l.map f).eraseIdx i
  | [], _ => rfl
  | _ :: _, 0 => rfl
  | x :: l, i + 1 => by simp [map_erase f l i]

theorem actMakeMap_ok (H : Meets P T ρ get a w x) {o : Oper} {t : TypeId} (ho : o.op = .makeMap t none) {base : Nat} {k : AVal → Ups → Option R} {z : R}
    (hk : actMakeMap T get base t k = some z) : ∃ u ups, k u ups = some z ∧ ActOk P o a w x u ups := by
  unfold actMakeMap at hk
  split at hk
  case h_2 => cases hk
  rename_i kt et hut
  split at hk
  case h_2 => cases hk
  rename_i K V hK hV hg
  refine ⟨_, _, hk, ?_⟩
  intro next Q hnext
  have h0 := H.obj base _ hg
  have G := goes_made (ob := .map K V [] [] 0) H.mem H.h h0 rfl (.map #[] 0) (fun _ _ => ⟨w.heap.size, #[], if_pos rfl, if_pos rfl, All2.nil, rfl⟩)
  unfold Oper.wp
  have hrun : (execOp a.eval o).run P w = .ok (.value (.map (some w.heap.size))) (w.alloc (.map #[] 0)) := by
    simp only [execOp, ho, Instr.makeMap, Option.map_none, Sem.run_bind, Sem.run_pure, Result.andThen_ok]
    rfl
  rw [hrun, Oper.upon_value]
  refine hnext _ _ _ G rfl (show (AVal.map base).C _ _ from ⟨_, rfl, rfl, ?_⟩)
  unfold MapRel
  rw [made_obj H.mem h0 rfl rfl, if_pos rfl]
  exact ⟨_, if_pos rfl, rfl⟩

theorem actEntryStore_ok (H : Meets P T ρ get a w x) {o : Oper} {t : TypeId} {vo so yo : Operand} (ho : o.op = .entryStore t vo so yo) {v s y : AVal} (hv : v.V x (a.eval vo)) (hs : s.V x (a.eval so)) (hy : y.V x (a.eval yo)) {k : AVal → Ups → Option R} {z : R}
    (hk : actEntryStore get v s y k = some z) : ∃ u ups, k u ups = some z ∧ ActOk P o a w x u ups := by
  unfold actEntryStore at hk
  split at hk
  case h_2 => cases hk
  rename_i r
  split at hk
  case h_2 => cases hk
  rename_i K V m bs clk hg
  split at hk
  case h_2 => cases hk
  rename_i kd n yd hyd
  split at hk
  case h_2 => cases hk
  rename_i e he
  refine ⟨_, _, hk, ?_⟩
  have h0 := H.obj r _ hg
  have hobj := obj_of_get H.mem h0
  obtain ⟨c0, hc0, _, hr⟩ := (show (AVal.map r).C x [a.eval vo] from hv)
  simp only [List.cons.injEq, and_true] at hc0
  unfold MapRel at hr
  rw [hobj] at hr
  obtain ⟨a0, h1, e1⟩ := hr
  have hrel := H.mem.objs r
  rw [hobj] at hrel
  obtain ⟨b, es, h2, h3, A, hb⟩ := hrel
  rw [h2] at h1; cases h1
  have hwb := heap_at H h3
  have hyv := toDat_V hyd hy
  have hsv := V_int.1 hs
  unfold mstore at he
  simp only at he
  split at he
  case h_2 => cases he
  rename_i i hi
  cases he
  -- the same entry, in the map as it lies
  have hi2 : es.findIdx? (fun e => (e.born : Int) == n) = some i := by
    rw [← hb, List.findIdx?_map] at hi
    rw [show es.findIdx? (fun e => (e.born : Int) == n) = es.toList.findIdx? (fun e => (e.born : Int) == n) by cases es; simp]
    exact hi
  obtain ⟨hlt, hbi⟩ : ∃ h : i < es.size, True := by
    have := Array.findIdx?_eq_some_iff_getElem.1 hi2
    exact ⟨this.1, trivial⟩
  have hc : es.toList[i]? = some es[i] := by simp [hlt]
  obtain ⟨p, hp⟩ : ∃ p, m[i]? = some p := ⟨_, List.getElem?_eq_getElem (by rw [A.1]; simpa using hlt)⟩
  have hr2 := A.2 i p _ hp hc
  have hrun : (execOp a.eval o).run P w = .ok .skip { w with heap := w.heap.setIfInBounds b (.map (es.modify i fun e => { e with val := a.eval yo }) clk) } := by
    simp only [execOp, ho, Instr.entryStore, hc0, e1, Sem.run_bind, Sem.run_pure, Result.andThen_ok, MapKept.run_getObj_map hwb, hsv, asInt, asIntOf, Sem.run_map, hi2, MapKept.run_setObj_map _ hwb]
  have hm' : m.modify i (fun e => (e.1, yd)) = m.set i (p.1, yd) := by
    apply List.ext_getElem?
    intro j
    rw [List.getElem?_modify, List.getElem?_set]
    split
    · rename_i ij
      subst ij
      rw [hp]
      rw [if_pos (by rw [A.1]; simpa using hlt)]
      simp
    · rename_i ij
      cases m[j]? <;> simp [ij]
  simp only [hm']
  refine map_done H h0 h2 h3 ?_ ?_ hrun
  · rw [Array.toList_modify]
    exact all2_modify A hc ⟨hr2.1, hyv⟩
  · rw [Array.toList_modify, ← hb]
    apply List.ext_getElem?
    intro j
    simp only [List.getElem?_map, List.getElem?_modify]
    cases es.toList[j]? <;> simp
    split <;> rfl

theorem actDelete_ok (H : Meets P T ρ get a w x) {o : Oper} {t t' : TypeId} {vo uo : Operand} (ho : o.op = .call { callee := .builtin .delete, args := #[vo, uo], argTypes := #[t, t'] }) {v u : AVal} (hv : v.V x (a.eval vo)) (hu : u.V x (a.eval uo)) {k : AVal → Ups → Option R} {z : R}
    (hk : actDelete T get t v u k = some z) : ∃ u ups, k u ups = some z ∧ ActOk P o a w x u ups := by
  obtain ⟨r, K, V, m, bs, clk, kd, zd, kt, et, blk, es, ed, hk, ht, hf, hkd, hed, hzd, h0, h1, h2, h3, e1, A, hb⟩ := mapK_ok H hv hu hk
  refine ⟨_, _, hk, ?_⟩
  have hfind := find_ok (w := w) H.tbl hf hkd A
  have hcheck := key_check (w := w) H.tbl hf hkd es.isEmpty
  have hset := fun o' => MapKept.run_setObj_map (P := P) (w := w) o' h3
  have done : ∀ (m' : List (K.den × V.den)) (bs' : List Nat) (es' : Array MapEntry), All2 (EntryRel x K V) m' es'.toList → es'.toList.map (·.born) = bs' →
      (Builtin.delete_ #[t, t'] o.type #[a.eval vo, a.eval uo]).run P w = .ok (.tuple #[]) { w with heap := w.heap.setIfInBounds blk (.map es' clk) } →
      ActOk P o a w x (.tup .nil) [(r, .map K V m' bs' clk)] := by
    intro m' bs' es' A' hb' hrun next Q hnext
    unfold Oper.wp
    simp only [execOp, ho, resolve, invoke, builtin, Sem.run_bind, Sem.run_pure, Result.andThen_ok, List.map_toArray, List.map_cons, List.map_nil, hrun, Oper.upon_value]
    exact hnext _ _ _ (goes_map H.mem H.h h0 h1 h2 A' hb') rfl (show (AVal.tup .nil).C _ [.tuple #[]] from ⟨[], rfl, rfl⟩)
  unfold mdel
  cases hi : midx K V kd m with
  | none =>
    refine done _ _ es A hb ?_
    simp [Builtin.delete_, run_underlying ht, e1, MapKept.run_getObj_map h3, hcheck, hfind, hi, hset]
  | some i =>
    obtain ⟨e, c, hm, hc, hr, hq⟩ := idx_entry A hi
    have hc' : es[i]? = some c := by simpa using hc
    have hlt : i < es.size := by
      rcases Nat.lt_or_ge i es.size with h | h
      · exact h
      · rw [Array.getElem?_eq_none h] at hc'; cases hc'
    refine done _ _ (es.eraseIdxIfInBounds i) ?_ ?_ ?_
    · simp only [Array.eraseIdxIfInBounds, hlt, dite_true, Array.toList_eraseIdx]
      exact all2_erase A i
    · simp only [Array.eraseIdxIfInBounds, hlt, dite_true, Array.toList_eraseIdx, ← hb]
      exact map_erase _ _ _
    · simp [Builtin.delete_, run_underlying ht, e1, MapKept.run_getObj_map h3, hcheck, hfind, hi, hc', hset]

def capsOf : List AVal → AVal
  | [] => .nil
  | v :: l => .cons v (capsOf l)

theorem capsOf_C : ∀ {l : List AVal} {vs : List Value}, All2 (fun v u => v.V x u) l vs → (capsOf l).C x vs
  | [], vs, A => List.length_eq_zero_iff.1 A.1.symm
  | v :: l, vs, A => by
    obtain ⟨u, us, rfl, h, A⟩ := A.cons_inv
    exact ⟨u, us, rfl, h, capsOf_C A⟩

theorem mapM_V (H : Meets P T ρ get a w x) : ∀ {l : List Operand} {vs : List AVal}, l.mapM ρ = some vs → All2 (fun v u => v.V x u) vs (l.map a.eval)
  | [], vs, h => by simp at h; subst h; exact .nil
  | o :: l, vs, h => by
    rw [List.mapM_cons] at h
    cases ho : ρ o with
    | none => rw [ho] at h; cases h
    | some v =>
      rw [ho] at h
      cases hl : l.mapM ρ with
      | none => rw [hl] at h; cases h
      | some us =>
        rw [hl] at h
        obtain rfl : v :: us = vs := by simpa using h
        exact .cons (H.val _ _ ho) (mapM_V H hl)

theorem actMakeFunc_ok (H : Meets P T ρ get a w x) {o : Oper} {f : FuncId} {cs : Array Operand} (ho : o.op = .makeFunc (.func f) #[] cs) {vs : List AVal} (hvs : cs.toList.mapM ρ = some vs) {k : AVal → Ups → Option R} {z : R}
    (hk : k (.fn f (capsOf vs)) [] = some z) : ∃ u ups, k u ups = some z ∧ ActOk P o a w x u ups := by
  refine ⟨_, _, hk, ActOk.value (u := .func (.func f) #[] (cs.map a.eval)) H.mem H.h ?_ ?_⟩
  · simp [execOp, ho, Instr.makeFunc]
  · refine (show (AVal.fn f (capsOf vs)).C x [_] from ⟨cs.toList.map a.eval, ?_, capsOf_C (mapM_V H hvs)⟩)
    have : (capsOf vs).isTup = false := by cases vs <;> rfl
    rw [this]
    show [Value.func (.func f) #[] (cs.map a.eval)] = [Value.func (.func f) #[] (cs.toList.map a.eval).toArray]
    rw [← Array.toList_map]

theorem actMakeBound_ok (H : Meets P T ρ get a w x) {o : Oper} {f : FuncId} {cs : Array Operand} (ho : o.op = .makeFunc (.func f) cs #[]) {vs : List AVal} (hvs : cs.toList.mapM ρ = some vs) {k : AVal → Ups → Option R} {z : R}
    (hk : k (.fn f (.tup (capsOf vs))) [] = some z) : ∃ u ups, k u ups = some z ∧ ActOk P o a w x u ups := by
  refine ⟨_, _, hk, ActOk.value (u := .func (.func f) (cs.map a.eval) #[]) H.mem H.h ?_ ?_⟩
  · simp [execOp, ho, Instr.makeFunc]
  · refine (show (AVal.fn f (.tup (capsOf vs))).C x [_] from ⟨[.tuple (cs.toList.map a.eval).toArray], ?_, cs.toList.map a.eval, rfl, capsOf_C (mapM_V H hvs)⟩)
    show [Value.func (.func f) (cs.map a.eval) #[]] = [Value.func (.func f) (cs.toList.map a.eval).toArray #[]]
    rw [← Array.toList_map]
end
end Go.Am

/- The abstract machine, eighteenth part, still more: ranges over maps; steps of which there is more than one outcome. -/
namespace Go.Am

/-! ### Calls that change nothing -/
noncomputable def roK {R : Type} (p : Prop) (y : Option R) : Option R := open Classical in if p then y else none
theorem roK_of {R : Type} {p : Prop} {y : Option R} (h : p) : roK p y = y := by unfold roK; rw [if_pos h]
theorem roK_some {R : Type} {p : Prop} {y : Option R} {z : R} (h : roK p y = some z) : p ∧ y = some z := by
  unfold roK at h
  split at h
  · rename_i hp; exact ⟨hp, h⟩
  · cases h

def sameUps (get : Nat → Option AObj) : Ups → Prop
  | [] => True
  | p :: l => get p.1 = some p.2 ∧ sameUps get l

/-- Told as one that changes nothing: that is asked. -/
noncomputable def roCall {R : Type} (an : Ann) (get : Nat → Option AObj) (k : AVal → Ups → Option R) (v : AVal) (ups : Ups) : Option R :=
  bif Nat.beq an.mode 2 then roK (sameUps get ups) (k v []) else k v ups

theorem sameUps_eq {get : Nat → Option AObj} {σ : List AObj} (hobj : ∀ r ob, get r = some ob → σ[r]? = some ob) : ∀ ups : Ups, sameUps get ups → applyUps σ ups = σ
  | [], _ => rfl
  | p :: l, h => by
    have h1 := hobj _ _ h.1
    show applyUps (σ.set p.1 p.2) l = σ
    rw [set_same h1]
    exact sameUps_eq hobj l h.2

theorem roCall_ok {P : Program} {o : Oper} {a : Act} {w : World} {x : Ctx} {R : Type} {an : Ann} {get : Nat → Option AObj} (hobj : ∀ r ob, get r = some ob → x.σ[r]? = some ob) {k : AVal → Ups → Option R} {z : R} {v : AVal} {ups : Ups}
    (hk : roCall an get k v ups = some z) (h : ActOk P o a w x v ups) : ∃ u ups, k u ups = some z ∧ ActOk P o a w x u ups := by
  unfold roCall at hk
  cases hm : Nat.beq an.mode 2 with
  | false => rw [hm] at hk; exact ⟨_, _, hk, h⟩
  | true =>
    rw [hm] at hk
    obtain ⟨hs, hk⟩ := roK_some hk
    refine ⟨_, _, hk, fun next Q hn => h next Q fun u w' x' G hσ hv => hn u w' x' G ?_ hv⟩
    rw [hσ, sameUps_eq hobj ups hs]; rfl

/-! ### As plain data -/

/-- All answers alike: that one. -/
noncomputable def allEq {R : Type} : List (Option R) → Option R
  | [] => none
  | y :: l => open Classical in if ∀ y' ∈ l, y' = y then y else none

noncomputable def fork {R : Type} (y y' : Option R) : Option R := allEq [y, y']

theorem allEq_mem {R : Type} {l : List (Option R)} {z : R} (h : allEq l = some z) : ∀ y ∈ l, y = some z := by
  cases l with
  | nil => cases h
  | cons y l =>
    simp only [allEq] at h
    split at h
    · rename_i hl
      subst h
      intro y hy
      rcases List.mem_cons.1 hy with e | hy
      · exact e
      · exact hl y hy
    · cases h
theorem allEq_all {R : Type} {l : List (Option R)} {y : Option R} (hl : l ≠ []) (h : ∀ y' ∈ l, y' = y) : allEq l = y := by
  cases l with
  | nil => exact absurd rfl hl
  | cons y0 l =>
    simp only [allEq]
    have h0 := h y0 (by simp)
    rw [if_pos fun y' hy => by rw [h y' (by simp [hy]), h0], h0]
theorem fork_one {R : Type} {y y' : Option R} {z : R} (h : fork y y' = some z) : y = some z := allEq_mem h y (by simp)
theorem fork_two {R : Type} {y y' : Option R} {z : R} (h : fork y y' = some z) : y' = some z := allEq_mem h y' (by simp)
theorem fork_self {R : Type} (y : Option R) : fork y y = y := allEq_all (by simp) (by simp)

/-- The entries that a range has not come to. -/
def mleft {A : Type} (seen : List Nat) : List A → List Nat → List (Nat × A)
  | e :: l, b :: bs => bif seen.contains b then mleft seen l bs else (b, e) :: mleft seen l bs
  | _, _ => []

def allLt (n : Nat) : List Nat → Bool
  | [] => true
  | b :: bs => Nat.blt b n && allLt n bs

/-- The next one of a range: any of those that are left. -/
noncomputable def nextP {R A : Type} (m : List A) (bs seen : List Nat) (over : Option R) (go : Nat → A → Option R) : Option R :=
  match mleft seen m bs with
  | [] => over
  | p :: l => allEq ((p :: l).map fun q => go q.1 q.2)

def mstamp {A : Type} : List A → List Nat → Nat → Option A
  | e :: l, b :: bs, s => bif Nat.beq b s then some e else mstamp l bs s
  | _, _, _ => none

/-- The entry that a range is at. -/
def entP {R A : Type} (m : List A) (bs seen : List Nat) (k : A → Option R) : Option R :=
  match seen with
  | s :: _ => match mstamp m bs s with
    | some e => k e
    | none => none
  | [] => none

section defs
variable {R : Type} (T : Tbl) (get : Nat → Option AObj)

def actRange (base : Nat) (t : TypeId) (v : AVal) (k : AVal → Ups → Option R) : Option R :=
  match undOf T t with
  | .map _ _ => match v with
    | .map r => match get r, get base with
      | some (.map _ _ _ _ clk), some .free => k (.map base) [(base, .iter (.map r) clk [])]
      | _, _ => none
    | _ => none
  | _ => none

def actEntry (v : AVal) (k : AVal → Ups → Option R) : Option R :=
  match v with
  | .map ri => match get ri with
    | some (.iter (.map r) since seen) => match get r with
      | some (.map K V m bs clk) => bif Nat.beq clk since then entP m bs seen (fun e => k (.tup (.cons (.dat true K e.1) (.cons (.dat true V e.2) .nil))) []) else none
      | _ => none
    | _ => none
  | _ => none

noncomputable def wildNext (v : AVal) (k : AVal → Ups → Option R) : Option R :=
  match v with
  | .map ri => match get ri with
    | some (.iter (.map r) since seen) => match get r with
      | some (.map K V m bs clk) => bif Nat.beq clk since && allLt since bs then
          nextP m bs seen (k (.tup (.cons (.dat true .bool false) .nil)) []) (fun b e => k (.tup (.cons (.dat true .bool true) (.cons (.dat true K e.1) (.cons (.dat true V e.2) .nil)))) [(ri, .iter (.map r) since (b :: seen))])
        else none
      | _ => none
    | _ => none
  | _ => none

/-- Is that slice nil? One that has elements is not; one that has none may be. -/
noncomputable def wildNil (op : BinOp) (t : TypeId) (v : AVal) (k : AVal → Option R) : Option R :=
  match undOf T t with
  | .slice _ => match v with
    | .dat _ (.slice _) xs => bif List.isEmpty xs then fork (binEq op true k) (binEq op false k) else binEq op false k
    | .slc r g => match get r with
      | some (.arr g' _ xs) => bif Nat.beq g g' then (bif List.isEmpty xs then fork (binEq op true k) (binEq op false k) else binEq op false k) else none
      | _ => none
    | _ => none
  | _ => none

/-- A step of which there is more than one outcome. -/
noncomputable def wildK (op : Op) (ρ : Operand → Option AVal) (k : AVal → Ups → Option R) : Option R :=
  match op with
  | .next x false => match ρ x with | some v => wildNext get v k | none => none
  | .binOp op t x y _ => match ρ x with | some u => bif isNilC y then wildNil T get op t u (fun v => k v []) else none | none => none
  | _ => none
end defs

/-- What may come of it. -/
def WildOk (P : Program) (o : Oper) (a : Act) (w : World) (x : Ctx) (outs : AVal → Ups → Prop) : Prop :=
  ∀ (next : Act → World → Prop) (Q : Exit → Act → World → Prop),
    (∀ v ups u w' x', outs v ups → Goes x w x' w' → x'.σ = applyUps x.σ ups → v.V x' u → next (a.put o.dst u) w') → o.wp P a w next Q

section
variable {P : Program} {T : Tbl} {ρ : Operand → Option AVal} {get : Nat → Option AObj} {a : Act} {w : World} {x : Ctx} {R : Type}

theorem WildOk.of {o : Oper} {v : AVal} {ups : Ups} {outs : AVal → Ups → Prop} (ho : outs v ups) (h : ActOk P o a w x v ups) : WildOk P o a w x outs :=
  fun next Q hn => h next Q fun u w' x' => hn v ups u w' x' ho

/-- What is met of an iterator and its map. -/
theorem iter_at (H : Meets P T ρ get a w x) {ri r since : Nat} {seen : List Nat} {K V : Ty} {m : List (K.den × V.den)} {bs : List Nat} {clk : Nat} {vv : Value}
    (hv : (AVal.map ri).V x vv) (hi : get ri = some (.iter (.map r) since seen)) (hg : get r = some (.map K V m bs clk)) :
    ∃ bi bm es, vv = .pointer (some ⟨bi, 0, none⟩) ∧ x.σ[ri]? = some (.iter (.map r) since seen) ∧ x.μ ri = some ⟨bi, 0, none⟩ ∧ w.heap[bi]? = some (.mapIter (some bm) since seen.reverse.toArray since) ∧ (AVal.map r).C x [.map (some bm)] ∧
      w.heap[bm]? = some (.map es clk) ∧ All2 (EntryRel x K V) m es.toList ∧ es.toList.map (·.born) = bs := by
  have h0 := H.obj ri _ hi
  have hobj := obj_of_get H.mem h0
  have h0' := H.obj r _ hg
  have hobj' := obj_of_get H.mem h0'
  have hrel := H.mem.objs ri
  rw [hobj] at hrel
  obtain ⟨bi, bm, h1, h2, h3, h4⟩ := hrel
  obtain ⟨c0, hc0, _, hr⟩ := (show (AVal.map ri).C x [vv] from hv)
  simp only [List.cons.injEq, and_true] at hc0
  unfold MapRel at hr
  rw [hobj] at hr
  obtain ⟨a0, g1, e1⟩ := hr
  rw [h1] at g1; cases g1
  have hrel' := H.mem.objs r
  rw [hobj'] at hrel'
  obtain ⟨b, es, k1, k2, k3, k4⟩ := hrel'
  obtain ⟨c1, hc1, _, hr1⟩ := h3
  simp only [List.cons.injEq, and_true] at hc1
  unfold MapRel at hr1
  rw [hobj'] at hr1
  obtain ⟨a1, g2, e2⟩ := hr1
  rw [k1] at g2; cases g2
  rw [e2] at hc1
  cases hc1
  exact ⟨bi, b, es, hc0.trans e1, h0, h1, heap_at H h2, ⟨_, rfl, rfl, by unfold MapRel; rw [hobj']; exact ⟨_, k1, rfl⟩⟩, heap_at H k2, k3, k4⟩

theorem actRange_ok (H : Meets P T ρ get a w x) {o : Oper} {t : TypeId} {vo : Operand} (ho : o.op = .range t vo) {base : Nat} {v : AVal} (hv : v.V x (a.eval vo)) {k : AVal → Ups → Option R} {z : R}
    (hk : actRange T get base t v k = some z) : ∃ u ups, k u ups = some z ∧ ActOk P o a w x u ups := by
  unfold actRange at hk
  split at hk
  case h_2 => cases hk
  rename_i kt et hut
  have ht : P.underlying t = some (.map kt et) := undOf_ok H.tbl hut (by simp)
  split at hk
  case h_2 => cases hk
  rename_i r
  split at hk
  case h_2 => cases hk
  rename_i K V m bs clk hg hb
  refine ⟨_, _, hk, ?_⟩
  have h0 := H.obj r _ hg
  have hobj := obj_of_get H.mem h0
  have hbase := H.obj base _ hb
  obtain ⟨c0, hc0, hone, hr⟩ := (show (AVal.map r).C x [a.eval vo] from hv)
  simp only [List.cons.injEq, and_true] at hc0
  have hr0 := hr
  unfold MapRel at hr
  rw [hobj] at hr
  obtain ⟨a0, h1, e1⟩ := hr
  have hrel := H.mem.objs r
  rw [hobj] at hrel
  obtain ⟨b, es, h2, h3, h4, h5⟩ := hrel
  rw [h2] at h1; cases h1
  have ev : a.eval vo = .map (some b) := hc0.trans e1
  intro next Q hnext
  have G := goes_made (ob := .iter (.map r) clk []) H.mem H.h hbase rfl (.mapIter (some b) clk #[] clk) (fun hs hk => ⟨w.heap.size, b, if_pos rfl, if_pos rfl, AVal.C.mono hs hk (.map r) _ (by rw [← ev]; exact hv), rfl⟩)
  unfold Oper.wp
  have hrun : (execOp a.eval o).run P w = .ok (.value (.pointer (some ⟨w.heap.size, 0, none⟩))) (w.alloc (.mapIter (some b) clk #[] clk)) := by
    simp only [execOp, ho, Sem.run_bind, ev, run_range_map w t kt et b es clk ht (heap_at H h3), Result.andThen_ok, Sem.run_pure]
  rw [hrun, Oper.upon_value]
  refine hnext _ _ _ G rfl (show (AVal.map base).C _ _ from ⟨_, rfl, rfl, ?_⟩)
  unfold MapRel
  rw [made_obj H.mem hbase rfl rfl, if_pos rfl]
  exact ⟨_, if_pos rfl, rfl⟩

theorem mstamp_find {K V : Ty} {s : Nat} : ∀ {m : List (K.den × V.den)} {es : List MapEntry} {bs : List Nat}, All2 (EntryRel x K V) m es → es.map (·.born) = bs → ∀ {e : K.den × V.den}, mstamp m bs s = some e → ∃ c, es.find? (·.born == s) = some c ∧ EntryRel x K V e c
  | [], es, bs, A, hb, e, h => by cases bs <;> cases h
  | e0 :: m, es, bs, A, hb, e, h => by
    obtain ⟨c0, es, rfl, hr, A⟩ := A.cons_inv
    subst hb
    simp only [List.map_cons, mstamp] at h
    cases hc : Nat.beq c0.born s with
    | true =>
      rw [hc] at h; cases h
      exact ⟨c0, by rw [List.find?_cons, show (c0.born == s) = true by rw [Nat.eq_of_beq_eq_true hc]; simp], hr⟩
    | false =>
      rw [hc] at h
      have : (c0.born == s) = false := by
        cases hq : c0.born == s with
        | false => rfl
        | true => rw [eq_of_beq hq, Nat.beq_refl] at hc; cases hc
      obtain ⟨c, h1, h2⟩ := mstamp_find A rfl h
      exact ⟨c, by rw [List.find?_cons, this]; exact h1, h2⟩

theorem actEntry_ok (H : Meets P T ρ get a w x) {o : Oper} {vo : Operand} (ho : o.op = .entry vo) {v : AVal} (hv : v.V x (a.eval vo)) {k : AVal → Ups → Option R} {z : R}
    (hk : actEntry get v k = some z) : ∃ u ups, k u ups = some z ∧ ActOk P o a w x u ups := by
  unfold actEntry at hk
  split at hk
  case h_2 => cases hk
  rename_i ri
  split at hk
  case h_2 => cases hk
  rename_i r since seen hi
  split at hk
  case h_2 => cases hk
  rename_i K V m bs clk hg
  replace ⟨hc, hk⟩ := cond_some hk
  obtain rfl := Nat.eq_of_beq_eq_true hc
  unfold entP at hk
  split at hk
  case h_2 => cases hk
  rename_i s seen
  split at hk
  case h_2 => cases hk
  rename_i e he
  obtain ⟨bi, bm, es, ev, h0, h1, h2, h3, h4, A, hb⟩ := iter_at H hv hi hg
  obtain ⟨c, hf, hr⟩ := mstamp_find A hb he
  refine ⟨_, _, hk, ActOk.value (u := .tuple #[c.key, c.val]) H.mem H.h ?_ (show AVal.C x _ _ from ⟨[c.key, c.val], rfl, c.key, [c.val], rfl, hr.1, c.val, [], rfl, hr.2, rfl⟩)⟩
  have hlast : (s :: seen).reverse.toArray.back? = some s := by simp
  have hf' : es.find? (·.born == s) = some c := by rw [← Array.find?_toList]; exact hf
  have hrun : (Instr.entry (.pointer (some ⟨bi, 0, none⟩))).run P w = .ok (.tuple #[c.key, c.val]) w := by
    simp only [Instr.entry, getObj, Sem.run_bind, Sem.run, h2, h4, Result.andThen, hlast, bne_self_eq_false, Bool.false_eq_true, if_false, hf']
    rfl
  simp only [execOp, ho, Sem.run_bind, ev, hrun, Result.andThen_ok, Sem.run_pure]

theorem mleft_entries {K V : Ty} {seen : List Nat} : ∀ {m : List (K.den × V.den)} {es : List MapEntry} {bs : List Nat}, All2 (EntryRel x K V) m es → es.map (·.born) = bs →
    All2 (fun (p : Nat × (K.den × V.den)) c => p.1 = c.born ∧ EntryRel x K V p.2 c) (mleft seen m bs) (es.filter fun e => !seen.reverse.toArray.contains e.born)
  | [], es, bs, A, hb => by
    obtain rfl : es = [] := List.length_eq_zero_iff.1 A.1.symm
    cases bs <;> exact All2.nil
  | e0 :: m, es, bs, A, hb => by
    obtain ⟨c0, es, rfl, hr, A⟩ := A.cons_inv
    subst hb
    have ih := mleft_entries (seen := seen) A rfl
    have hsame : seen.reverse.toArray.contains c0.born = seen.contains c0.born := by simp
    simp only [List.map_cons, mleft, List.filter_cons, hsame]
    cases seen.contains c0.born with
    | true => simpa using ih
    | false => simpa using All2.cons ⟨rfl, hr⟩ ih

theorem allLt_mem {n : Nat} : ∀ {bs : List Nat}, allLt n bs = true → ∀ b ∈ bs, b < n
  | [], _, b, hb => by cases hb
  | b0 :: bs, h, b, hb => by
    simp only [allLt, Bool.and_eq_true] at h
    rcases List.mem_cons.1 hb with e | hb
    · subst e; simpa [Nat.blt_eq] using h.1
    · exact allLt_mem h.2 b hb

/-- The state behind a step of a range. -/
theorem goes_iter (M : Mem x) (hh : x.h = fun b => w.heap[b]?) {ri r since : Nat} {seen : List Nat} (h0 : x.σ[ri]? = some (.iter (.map r) since seen)) {bi bm b : Nat}
    (h1 : x.μ ri = some ⟨bi, 0, none⟩) (h2 : w.heap[bi]? = some (.mapIter (some bm) since seen.reverse.toArray since)) (h3 : (AVal.map r).C x [.map (some bm)]) {w1 : World} (hw : w1 = w ∨ w1 = w.drew) :
    Goes x w (x.wrote bi (.mapIter (some bm) since (b :: seen).reverse.toArray since) ri (.iter (.map r) since (b :: seen))) (ChangeMaps.setBlock w1 bi (.mapIter (some bm) since (seen.reverse.toArray.push b) since)) := by
  have e0 : seen.reverse.toArray.push b = (b :: seen).reverse.toArray := by simp
  rw [e0]
  have hobj := obj_of_get M h0
  have hk : Keeps x (x.wrote bi (.mapIter (some bm) since (b :: seen).reverse.toArray since) ri (.iter (.map r) since (b :: seen))) ri := by
    refine ⟨fun g p c hp => ?_, fun g c1 hp => ?_, fun g lo len ex c hp => ?_, fun c hp => ?_⟩
    · unfold PtrRel; rw [wrote_obj M h0 rfl rfl, if_pos rfl]; trivial
    · unfold SlcRel; rw [wrote_obj M h0 rfl rfl, if_pos rfl]; trivial
    · unfold SubRel; rw [wrote_obj M h0 rfl rfl, if_pos rfl]; trivial
    · unfold MapRel at hp ⊢; rw [wrote_obj M h0 rfl rfl, if_pos rfl]; rw [hobj] at hp; exact hp
  have U0 : Upd0 x (x.wrote bi (.mapIter (some bm) since (b :: seen).reverse.toArray since) ri (.iter (.map r) since (b :: seen))) ri := {
    S := rfl
    at_ := rfl
    pl := rfl
    low := M.low h0
    len := List.length_set
    obj := fun r' hr => by rw [wrote_obj M h0 rfl rfl, if_neg hr]
    μ := fun r' hr => rfl
    h := fun b hs hne => if_neg fun e => hne _ (by rw [hobj]; rfl) h1 e.symm
    keep := hk
    blk := fun a' hl' ha' => .inl ⟨a', by rw [hobj]; rfl, ha', rfl⟩ }
  have U : Upd x (x.wrote bi (.mapIter (some bm) since (b :: seen).reverse.toArray since) ri (.iter (.map r) since (b :: seen))) ri := ⟨U0, by
    rw [wrote_obj M h0 rfl rfl, if_pos rfl]
    exact ⟨bi, bm, h1, if_pos rfl, AVal.C.mono (U0.hS M) (U0.keeps M) (.map r) _ h3, rfl⟩⟩
  have G : Goes x w (x.wrote bi (.mapIter (some bm) since (b :: seen).reverse.toArray since) ri (.iter (.map r) since (b :: seen))) { w with heap := w.heap.setIfInBounds bi (.mapIter (some bm) since (b :: seen).reverse.toArray since) } := by
    refine U.goes M hh ?_ rfl rfl rfl (by simp)
    funext b'
    show (if b' = bi then _ else x.h b') = (w.heap.setIfInBounds bi _)[b']?
    have hs := MapKept.heap_set (o' := .mapIter (some bm) since (b :: seen).reverse.toArray since) h2
    by_cases e : b' = bi
    · rw [if_pos e, e, hs.1]
    · rw [if_neg e, hs.2 b' e, hh]
  rcases hw with rfl | rfl
  · exact G
  · exact G.trans (Goes.drew G.mem G.h _)

theorem wildNext_ok (H : Meets P T ρ get a w x) {o : Oper} {vo : Operand} (ho : o.op = .next vo false) {v : AVal} (hv : v.V x (a.eval vo)) {k : AVal → Ups → Option R} {z : R}
    (hk : wildNext get v k = some z) : WildOk P o a w x fun v ups => k v ups = some z := by
  unfold wildNext at hk
  split at hk
  case h_2 => cases hk
  rename_i ri
  split at hk
  case h_2 => cases hk
  rename_i r since seen hi
  split at hk
  case h_2 => cases hk
  rename_i K V m bs clk hg
  replace ⟨hc, hk⟩ := cond_some hk
  rw [Bool.and_eq_true] at hc
  obtain rfl := Nat.eq_of_beq_eq_true hc.1
  obtain ⟨bi, bm, es, ev, h0, h1, h2, h3, h4, A, hb⟩ := iter_at H hv hi hg
  have hold : ∀ c ∈ es.toList, c.born < clk := fun c hc' => allLt_mem hc.2 _ (by rw [← hb]; exact List.mem_map.2 ⟨c, hc', rfl⟩)
  have L := mleft_entries (seen := seen) A hb
  have hlist : (leftOf es seen.reverse.toArray).toList = es.toList.filter fun e => !seen.reverse.toArray.contains e.born := by unfold leftOf; rw [Array.toList_filter]
  rcases run_next_at (P := P) w o.type bi bm clk clk seen.reverse.toArray es clk h2 h4 hold (Nat.le_refl _) with ⟨hz, hrun⟩ | ⟨e, he, w1, hw, hrun⟩
  · have hnil : mleft seen m bs = [] := by
      rw [← hlist] at L
      have : (leftOf es seen.reverse.toArray).toList.length = 0 := by simpa using hz
      exact List.length_eq_zero_iff.1 (L.1.trans this)
    unfold nextP at hk
    rw [hnil] at hk
    refine .of hk (ActOk.value (u := .tuple #[.bool false]) H.mem H.h ?_ (show AVal.C x _ _ from ⟨[.bool false], rfl, .bool false, [], rfl, rfl, rfl⟩))
    simp only [execOp, ho, Sem.run_bind, ev, hrun, Result.andThen_ok, Sem.run_pure]
  · rw [hlist] at he
    obtain ⟨i, hil, hie⟩ := List.getElem_of_mem he
    have hp : i < (mleft seen m bs).length := by rw [L.1]; exact hil
    have hrel := L.2 i _ _ (List.getElem?_eq_getElem hp) (List.getElem?_eq_getElem hil)
    rw [hie] at hrel
    have hmem : (mleft seen m bs)[i] ∈ mleft seen m bs := List.getElem_mem hp
    generalize hq : (mleft seen m bs)[i] = q at hrel hmem
    have hk' : k (.tup (.cons (.dat true .bool true) (.cons (.dat true K q.2.1) (.cons (.dat true V q.2.2) .nil)))) [(ri, .iter (.map r) clk (q.1 :: seen))] = some z := by
      unfold nextP at hk
      split at hk
      · rename_i hn; rw [hn] at hmem; cases hmem
      · rename_i p l hn
        rw [hn] at hmem
        exact allEq_mem hk _ (List.mem_map.2 ⟨q, hmem, rfl⟩)
    intro next Q hnext
    unfold Oper.wp
    have hx : (execOp a.eval o).run P w = .ok (.value (.tuple #[.bool true, e.key, e.val])) (ChangeMaps.setBlock w1 bi (.mapIter (some bm) clk (seen.reverse.toArray.push e.born) clk)) := by
      simp only [execOp, ho, Sem.run_bind, ev, hrun, Result.andThen_ok, Sem.run_pure]
    rw [hx, Oper.upon_value]
    have G := goes_iter (b := q.1) H.mem H.h h0 h1 h2 h3 hw
    rw [← hrel.1]
    refine hnext _ _ _ _ _ hk' G rfl ?_
    exact (show AVal.C _ _ _ from ⟨[.bool true, e.key, e.val], rfl, .bool true, [e.key, e.val], rfl, rfl, e.key, [e.val], rfl, DatV.congr G.S hrel.2.1, e.val, [], rfl, DatV.congr G.S hrel.2.2, rfl⟩)

theorem eqIn_slice_none (d : Nat) {t e : TypeId} (l c : Nat) (h : P.underlying t = some (.slice e)) : (Op.equalIn (d + 1) t (.slice none l c) (.slice none 0 0)).run P w = .ok true w := by simp [Op.equalIn, run_underlying h]

theorem wildNil_ok (H : Meets P T ρ get a w x) {o : Oper} {op : BinOp} {t yt : TypeId} {xo yo : Operand} (ho : o.op = .binOp op t xo yo yt) (hy : isNilC yo = true) {u : AVal} (hu : u.V x (a.eval xo))
    {k : AVal → Ups → Option R} {z : R} (hk : wildNil T get op t u (fun v => k v []) = some z) : WildOk P o a w x fun v ups => k v ups = some z := by
  have ey : a.eval yo = .slice none 0 0 := by rw [isNilC_inv hy]; rfl
  have fin : ∀ {A : Type} (xs : List A) (e : TypeId), P.underlying t = some (.slice e) → (∃ base l c, a.eval xo = .slice base l c ∧ (base = none → xs = [])) →
      (bif List.isEmpty xs then fork (binEq op true fun v => k v []) (binEq op false fun v => k v []) else binEq op false fun v => k v []) = some z → WildOk P o a w x fun v ups => k v ups = some z := by
    rintro A xs e ht ⟨base, l, c, e1, hbn⟩ hk
    have two : base = none → binEq op true (fun v => k v []) = some z := fun hb => by
      rw [hbn hb] at hk
      exact fork_one hk
    have one : binEq op false (fun v => k v []) = some z := by
      cases hx : List.isEmpty xs with
      | false => rw [hx] at hk; exact hk
      | true => rw [hx] at hk; exact fork_two hk
    cases base with
    | none =>
      have he : (Op.equal t (.slice none l c) (.slice none 0 0)).run P w = .ok true w := eqIn_slice_none 9999 l c ht
      obtain ⟨u, ups, h3, h4⟩ := binEq_ok H ho e1 ey run_guard_slice (by simp [binOp, he]) (by simp [binOp, he]) (two rfl)
      exact .of h3 h4
    | some ad =>
      have he : (Op.equal t (.slice (some ad) l c) (.slice none 0 0)).run P w = .ok false w := eqIn_slice_some 9999 ad l c ht
      obtain ⟨u, ups, h3, h4⟩ := binEq_ok H ho e1 ey run_guard_slice (by simp [binOp, he]) (by simp [binOp, he]) one
      exact .of h3 h4
  unfold wildNil at hk
  split at hk
  case h_2 => cases hk
  rename_i e hut
  have ht := undOf_ok H.tbl hut (by simp)
  split at hk
  · rename_i p τ xs
    obtain ⟨base, len, cap, e1, e2, h3, h4, _⟩ := (show Ty.Rel x.h (x.F p) (.slice τ) xs [a.eval xo] from hu)
    simp only [List.cons.injEq, and_true] at e1
    exact fin xs e ht ⟨base, len, cap, e1, fun hb => List.length_eq_zero_iff.1 (by have := h4 hb; omega)⟩ hk
  · rename_i r g
    split at hk
    case h_2 => cases hk
    rename_i g' τ xs hg
    replace ⟨hc, hk⟩ := cond_some hk
    have hob := obj_of_get H.mem (H.obj _ _ hg)
    obtain ⟨c, e1, _, h1⟩ := (show (AVal.slc r g).C x [a.eval xo] from hu)
    simp only [List.cons.injEq, and_true] at e1
    unfold SlcRel at h1
    rw [hob] at h1
    have h1 := h1.2 (Nat.eq_of_beq_eq_true hc)
    have hrel := H.mem.objs r
    rw [hob] at hrel
    refine fin xs e ht ?_ hk
    cases hm : x.μ r with
    | none =>
      rw [hm] at h1
      obtain ⟨b, e2⟩ := h1
      rcases hrel with ⟨_, h2⟩ | ⟨b2, _, _, _, _, h2, _⟩
      · exact ⟨_, _, _, e1.trans e2, fun _ => h2⟩
      · rw [h2] at hm; cases hm
    | some ad => rw [hm] at h1; obtain ⟨cap, e2, _⟩ := h1; exact ⟨_, _, _, e1.trans e2, fun hb => by cases hb⟩
  · cases hk

theorem wildK_ok (H : Meets P T ρ get a w x) (o : Oper) {k : AVal → Ups → Option R} {z : R} (hk : wildK T get o.op ρ k = some z) : WildOk P o a w x fun v ups => k v ups = some z := by
  unfold wildK at hk
  split at hk
  · rename_i xo ho
    split at hk
    case h_2 => cases hk
    rename_i v hx
    exact wildNext_ok H ho (H.val _ _ hx) hk
  · rename_i op t xo yo yt ho
    split at hk
    case h_2 => cases hk
    rename_i u hx
    obtain ⟨hc, hk⟩ := cond_some hk
    exact wildNil_ok H ho hc (H.val _ _ hx) hk
  · cases hk
end
end Go.Am

/- The abstract machine: maps whose values are references. -/
namespace Go.Am

section
variable (K : Ty)
/-- Where a key stands. -/
def kidx (k : K.den) : List (K.den × AVal) → Option Nat
  | [] => none
  | e :: l => bif K.eqB k e.1 then some 0 else match kidx k l with
    | some i => some (i + 1)
    | none => none

variable {R : Type}
def vfindK (kd : K.den) (z : AVal) : List (K.den × AVal) → (AVal → Bool → Option R) → Option R
  | [], k => k z false
  | e :: l, k => bif K.eqB kd e.1 then k e.2 true else vfindK kd z l k
def vputK (kd : K.den) (v : AVal) : List (K.den × AVal) → (List (K.den × AVal) → Option R) → Option R
  | [], k => k [(kd, v)]
  | e :: l, k => bif K.eqB kd e.1 then k ((kd, v) :: l) else vputK kd v l fun l' => k (e :: l')
def vdelK (kd : K.den) : List (K.den × AVal) → (List (K.den × AVal) → Option R) → Option R
  | [], k => k []
  | e :: l, k => bif K.eqB kd e.1 then k l else vdelK kd l fun l' => k (e :: l')

theorem vfindK_eq (kd : K.den) (z : AVal) : ∀ (l : List (K.den × AVal)) (k : AVal → Bool → Option R), vfindK K kd z l k = match (kidx K kd l).bind fun i => l[i]? with | some e => k e.2 true | none => k z false
  | [], _ => rfl
  | e :: l, k => by
    simp only [vfindK, kidx]
    cases K.eqB kd e.1 with
    | true => rfl
    | false =>
      rw [cond_false, cond_false, vfindK_eq kd z l k]
      cases kidx K kd l <;> rfl
theorem vputK_eq (kd : K.den) (v : AVal) : ∀ (l : List (K.den × AVal)) (k : List (K.den × AVal) → Option R), vputK K kd v l k = k (match kidx K kd l with | some i => l.set i (kd, v) | none => l ++ [(kd, v)])
  | [], _ => rfl
  | e :: l, k => by
    simp only [vputK, kidx]
    cases K.eqB kd e.1 with
    | true => rfl
    | false =>
      rw [cond_false, cond_false, vputK_eq kd v l]
      cases kidx K kd l <;> rfl
theorem vdelK_eq (kd : K.den) : ∀ (l : List (K.den × AVal)) (k : List (K.den × AVal) → Option R), vdelK K kd l k = k (match kidx K kd l with | some i => l.eraseIdx i | none => l)
  | [], _ => rfl
  | e :: l, k => by
    simp only [vdelK, kidx]
    cases K.eqB kd e.1 with
    | true => rfl
    | false =>
      rw [cond_false, cond_false, vdelK_eq kd l]
      cases kidx K kd l <;> rfl
theorem kidx_eq (k : K.den) : ∀ (l : List (K.den × AVal)) (i : Nat), kidx K k l = some i → ∃ e, l[i]? = some e ∧ K.eqB k e.1 = true
  | [], i, h => by cases h
  | e :: l, i, h => by
    simp only [kidx] at h
    cases hk : K.eqB k e.1 with
    | true => rw [hk] at h; cases h; exact ⟨e, rfl, hk⟩
    | false =>
      rw [hk] at h
      simp only [cond_false] at h
      split at h
      · rename_i j hj
        cases h
        exact kidx_eq k l j hj
      · cases h
end

section defs
variable {R : Type} (T : Tbl) (get : Nat → Option AObj)

/-- A map of references, a key, the zero of its values. -/
def vmapK (t : TypeId) (v u : AVal) (k : (r : Nat) → (K : Ty) → List (K.den × AVal) → K.den → AVal → Option R) : Option R :=
  match undOf T t with
  | .map kt et => match v with
    | .map r => match get r, T et with
      | some (.vmap K m), some ed => match toDat K u with
        | some kd => bif keyFits T K kt then k r K m kd ed.zero else none
        | none => none
      | _, _ => none
    | _ => none
  | _ => none

def isVmap : AVal → Bool
  | .map r => match get r with
    | some (.vmap _ _) => true
    | _ => false
  | _ => false

def actLook (t : TypeId) (v u : AVal) (ok : Bool) (k : AVal → Ups → Option R) : Option R :=
  bif isVmap get v then
    vmapK T get t v u fun _ K m kd z => vfindK K kd z m fun y b => bif ok then k (.tup (.cons y (.cons (.dat true .bool b) .nil))) [] else k y []
  else actLookup T get t v u ok k

def actMapPut (t : TypeId) (v u y : AVal) (k : AVal → Ups → Option R) : Option R :=
  bif isVmap get v then
    vmapK T get t v u fun r K m kd _ => vputK K kd y m fun m' => k (.tup .nil) [(r, .vmap K m')]
  else actMapUpdate T get t v u y k

def actDel (t : TypeId) (v u : AVal) (k : AVal → Ups → Option R) : Option R :=
  bif isVmap get v then
    vmapK T get t v u fun r K m kd _ => vdelK K kd m fun m' => k (.tup .nil) [(r, .vmap K m')]
  else actDelete T get t v u k

def actNewMap (base : Nat) (t : TypeId) (k : AVal → Ups → Option R) : Option R :=
  match undOf T t with
  | .map kt et => match tyOf T 12 et with
    | some _ => actMakeMap T get base t k
    | none => match tyOf T 12 kt, get base with
      | some K, some .free => k (.map base) [(base, .vmap K [])]
      | _, _ => none
  | _ => none
end defs

section
variable {P : Program} {T : Tbl} {ρ : Operand → Option AVal} {get : Nat → Option AObj} {a : Act} {w : World} {x : Ctx} {R : Type}

theorem vasking (hT : TblOk P T) {K : Ty} {kt : TypeId} (hf : keyFits T K kt = true) {p : Bool} {k : K.den} {u : Value} (h : (AVal.dat p K k).V x u) : ∀ (m : List (K.den × AVal)) (es : List MapEntry) (i : Nat), All2 (VEntryRel x K) m es →
    (Instr.findAsking kt u es i).run P w = .ok ((kidx K k m).bind fun j => (es[j]?).map fun e => (i + j, e.val)) w
  | [], es, i, A => by
    obtain rfl : es = [] := List.length_eq_zero_iff.1 A.1.symm
    rfl
  | e :: m, es, i, A => by
    obtain ⟨c, es, rfl, hc, A⟩ := A.cons_inv
    simp only [Instr.findAsking, Sem.run_bind, key_equal hT hf h hc.1, Result.andThen_ok, kidx]
    cases K.eqB k e.1
    · simp only [Bool.false_eq_true, if_false, cond_false, vasking hT hf h m es (i + 1) A]
      cases kidx K k m with
      | none => rfl
      | some j => simp [Nat.add_assoc, Nat.add_comm 1 j]
    · simp

theorem vnow {K : Ty} {kd : IntKind} (hK : K = .int kd) {p : Bool} {k : K.den} {u : Value} (h : (AVal.dat p K k).V x u) : ∀ (m : List (K.den × AVal)) (es : List MapEntry) (i : Nat), All2 (VEntryRel x K) m es →
    Instr.findNow (.int kd) u es i = some ((kidx K k m).bind fun j => (es[j]?).map fun e => (i + j, e.val))
  | [], es, i, A => by
    obtain rfl : es = [] := List.length_eq_zero_iff.1 A.1.symm
    rfl
  | e :: m, es, i, A => by
    obtain ⟨c, es, rfl, hc, A⟩ := A.cons_inv
    have ih := vnow hK h m es (i + 1) A
    subst hK
    have h1 := V_int.1 h
    have h2 := V_int.1 hc.1
    subst h1
    simp only [Instr.findNow, h2, Instr.sameNow, if_true, kidx, Ty.eqB]
    by_cases e0 : k = e.1
    · rw [show (k == e.1) = true from beq_iff_eq.2 e0, decide_eq_true e0]; simp
    · rw [show (k == e.1) = false from beq_eq_false_iff_ne.2 e0, decide_eq_false e0]
      simp only [ih, cond_false]
      cases kidx (.int kd) k m with
      | none => rfl
      | some j => simp [Nat.add_assoc, Nat.add_comm 1 j]

theorem vfind_ok (hT : TblOk P T) {K : Ty} {kt : TypeId} (hf : keyFits T K kt = true) {p : Bool} {k : K.den} {u : Value} (h : (AVal.dat p K k).V x u) {m : List (K.den × AVal)} {es : List MapEntry} (A : All2 (VEntryRel x K) m es) :
    (Instr.findKey kt u es).run P w = .ok ((kidx K k m).bind fun j => (es[j]?).map fun e => (j, e.val)) w := by
  have h1 := vasking (w := w) hT hf h m es 0 A
  simp only [Nat.zero_add] at h1
  have hf0 := hf
  unfold keyFits at hf0
  split at hf0
  · rename_i kd
    unfold fits at hf0
    simp only [seqFits] at hf0
    split at hf0
    · rename_i k' he
      obtain ⟨_, d, h2, h3, _⟩ := hd?_inv he
      have hu := (hT _ _ h2).und
      rw [h3] at hu
      obtain rfl : kd = k' := by simpa using hf0
      have h2 := vnow rfl h m es 0 A
      simp only [Nat.zero_add] at h2
      exact MapKept.run_findKey (d := .int kd) hu h2
    · cases hf0
  · rename_i ka kb
    rw [Bool.and_eq_true] at hf0
    have hf1 := hf0.1
    unfold fits seqFits at hf1
    split at hf1
    · rename_i g h0 fs he
      obtain ⟨_, d, h2, h3, _⟩ := hd?_inv he
      have hu := (hT _ _ h2).und
      rw [h3] at hu
      obtain ⟨fields, u1, _, _⟩ := hu
      exact (run_findKey_eq (P := P) (w := w) (k := kt) (by rw [show P.underlying kt = _ from u1]) u es).trans h1
    · cases hf1
  · cases hf0

/-- The state behind a change of a map of references. -/
theorem goes_vmap (M : Mem x) (hh : x.h = fun b => w.heap[b]?) {r : Nat} {K : Ty} {m m' : List (K.den × AVal)} (h0 : x.σ[r]? = some (.vmap K m)) {blk : Nat} {es es' : Array MapEntry} {clk clk' : Nat}
    (h1 : x.μ r = some ⟨blk, 0, none⟩) (h2 : x.h blk = some (.map es clk)) (A : All2 (VEntryRel x K) m' es'.toList) :
    Goes x w (x.wrote blk (.map es' clk') r (.vmap K m')) { w with heap := w.heap.setIfInBounds blk (.map es' clk') } := by
  have hobj := obj_of_get M h0
  have hk : Keeps x (x.wrote blk (.map es' clk') r (.vmap K m')) r := by
    refine ⟨fun g p c hp => ?_, fun g c1 hp => ?_, fun g lo len ex c hp => ?_, fun c hp => ?_⟩
    · unfold PtrRel; rw [wrote_obj M h0 rfl rfl, if_pos rfl]; trivial
    · unfold SlcRel; rw [wrote_obj M h0 rfl rfl, if_pos rfl]; trivial
    · unfold SubRel; rw [wrote_obj M h0 rfl rfl, if_pos rfl]; trivial
    · unfold MapRel at hp ⊢; rw [wrote_obj M h0 rfl rfl, if_pos rfl]; rw [hobj] at hp; exact hp
  have U0 : Upd0 x (x.wrote blk (.map es' clk') r (.vmap K m')) r := {
    S := rfl
    at_ := rfl
    pl := rfl
    low := M.low h0
    len := List.length_set
    obj := fun r' hr => by rw [wrote_obj M h0 rfl rfl, if_neg hr]
    μ := fun r' hr => rfl
    h := fun b hs hne => if_neg fun e => hne _ (by rw [hobj]; rfl) h1 e.symm
    keep := hk
    blk := fun a' hl' ha' => .inl ⟨a', by rw [hobj]; rfl, ha', rfl⟩ }
  have U : Upd x (x.wrote blk (.map es' clk') r (.vmap K m')) r := ⟨U0, by
    rw [wrote_obj M h0 rfl rfl, if_pos rfl]
    exact ⟨blk, es', clk', h1, if_pos rfl, A.mono fun _ _ h => h.congr (U0.hS M) (U0.keeps M)⟩⟩
  have hwb : w.heap[blk]? = some (.map es clk) := by have := hh ▸ h2; exact this
  refine U.goes M hh ?_ rfl rfl rfl (by simp)
  funext b
  show (if b = blk then _ else x.h b) = (w.heap.setIfInBounds blk _)[b]?
  have hs := MapKept.heap_set (o' := .map es' clk') hwb
  by_cases e : b = blk
  · rw [if_pos e, e, hs.1]
  · rw [if_neg e, hs.2 b e, hh]

theorem vmapK_ok (H : Meets P T ρ get a w x) {t : TypeId} {v u : AVal} {vv vu : Value} (hv : v.V x vv) (hu : u.V x vu) {k : (r : Nat) → (K : Ty) → List (K.den × AVal) → K.den → AVal → Option R} {z : R} (hk : vmapK T get t v u k = some z) :
    ∃ r K m clk kd kt et blk es ed, k r K m kd ed.zero = some z ∧ P.underlying t = some (.map kt et) ∧ keyFits T K kt = true ∧ (AVal.dat true K kd).V x vu ∧ T et = some ed ∧
      x.σ[r]? = some (.vmap K m) ∧ x.μ r = some ⟨blk, 0, none⟩ ∧ x.h blk = some (.map es clk) ∧ w.heap[blk]? = some (.map es clk) ∧ vv = .map (some blk) ∧ All2 (VEntryRel x K) m es.toList := by
  unfold vmapK at hk
  split at hk
  case h_2 => cases hk
  rename_i kt et hut
  have ht : P.underlying t = some (.map kt et) := undOf_ok H.tbl hut (by simp)
  split at hk
  case h_2 => cases hk
  rename_i r
  split at hk
  case h_2 => cases hk
  rename_i K m ed hg hed
  split at hk
  case h_2 => cases hk
  rename_i kd hkd
  obtain ⟨hf, hk⟩ := cond_some hk
  have h0 := H.obj r _ hg
  have hobj := obj_of_get H.mem h0
  obtain ⟨c0, hc0, _, hr⟩ := (show (AVal.map r).C x [vv] from hv)
  simp only [List.cons.injEq, and_true] at hc0
  unfold MapRel at hr
  rw [hobj] at hr
  obtain ⟨a0, h1, e1⟩ := hr
  have hrel := H.mem.objs r
  rw [hobj] at hrel
  obtain ⟨b, es, clk, h2, h3, h4⟩ := hrel
  rw [h2] at h1; cases h1
  exact ⟨r, K, m, clk, kd, kt, et, b, es, ed, hk, ht, hf, toDat_V hkd hu, hed, h0, h2, h3, heap_at H h3, by rw [hc0, e1], h4⟩

theorem vidx_entry {K : Ty} {m : List (K.den × AVal)} {es : List MapEntry} (A : All2 (VEntryRel x K) m es) {kd : K.den} {i : Nat} (h : kidx K kd m = some i) : ∃ e c, m[i]? = some e ∧ es[i]? = some c ∧ VEntryRel x K e c ∧ K.eqB kd e.1 = true := by
  obtain ⟨e, h1, h2⟩ := kidx_eq K kd m i h
  obtain ⟨c, h3, h4⟩ := A.get h1
  exact ⟨e, c, h1, h3, h4, h2⟩

theorem actLook_ok (H : Meets P T ρ get a w x) {o : Oper} {t : TypeId} {vo uo : Operand} {ok : Bool} (ho : o.op = .lookup t vo uo ok) {v u : AVal} (hv : v.V x (a.eval vo)) (hu : u.V x (a.eval uo)) {k : AVal → Ups → Option R} {z : R}
    (hk : actLook T get t v u ok k = some z) : ∃ u ups, k u ups = some z ∧ ActOk P o a w x u ups := by
  unfold actLook at hk
  cases hv0 : isVmap get v with
  | false => rw [hv0] at hk; exact actLookup_ok H ho hv hu hk
  | true =>
    rw [hv0, cond_true] at hk
    obtain ⟨r, K, m, clk, kd, kt, et, blk, es, ed, hk, ht, hf, hkd, hed, h0, h1, h2, h3, e1, A⟩ := vmapK_ok H hv hu hk
    obtain ⟨zv, hz, hzv⟩ := (H.tbl et ed hed).zeroValue (w := w)
    have hfind := vfind_ok (w := w) H.tbl hf hkd A
    have hcheck := key_check (w := w) H.tbl hf hkd es.isEmpty
    rw [vfindK_eq] at hk
    have fin : ∀ (y : AVal) (b : Bool) (fv : Value), (bif ok then k (.tup (.cons y (.cons (.dat true .bool b) .nil))) [] else k y []) = some z → (Instr.lookup t (a.eval vo) (a.eval uo) ok).run P w = .ok (if ok then .tuple #[fv, .bool b] else fv) w → y.V x fv → ∃ u ups, k u ups = some z ∧ ActOk P o a w x u ups := by
      intro y b fv hk hrun hfv
      have hex : (execOp a.eval o).run P w = .ok (.value (if ok then .tuple #[fv, .bool b] else fv)) w := by
        simp only [execOp, ho, Sem.run_bind, hrun, Result.andThen_ok, Sem.run_pure]
      cases ok with
      | false => exact ⟨_, _, hk, ActOk.value H.mem H.h hex hfv⟩
      | true => exact ⟨_, _, hk, ActOk.value H.mem H.h hex (two_V hfv rfl)⟩
    cases hi : kidx K kd m with
    | none =>
      rw [hi] at hk
      refine fin ed.zero false zv hk ?_ (hzv x)
      unfold Instr.lookup
      simp only [Sem.run_bind, run_underlying ht, Result.andThen_ok, e1, MapKept.run_getObj_map h3, Sem.run_pure, hcheck, hfind, hi]
      simp [hz]
    | some i =>
      obtain ⟨e, c, hm, hc, hr, hq⟩ := vidx_entry A hi
      rw [hi, Option.bind_some, hm] at hk
      have hc' : es[i]? = some c := by simpa using hc
      refine fin e.2 true c.val hk ?_ hr.2
      unfold Instr.lookup
      simp only [Sem.run_bind, run_underlying ht, Result.andThen_ok, e1, MapKept.run_getObj_map h3, Sem.run_pure, hcheck, hfind, hi]
      simp [hc']

theorem vmap_done (H : Meets P T ρ get a w x) {o : Oper} {r : Nat} {K : Ty} {m m' : List (K.den × AVal)} {clk clk' : Nat} (h0 : x.σ[r]? = some (.vmap K m)) {blk : Nat} {es es' : Array MapEntry}
    (h1 : x.μ r = some ⟨blk, 0, none⟩) (h2 : x.h blk = some (.map es clk)) (A : All2 (VEntryRel x K) m' es'.toList)
    (hrun : (execOp a.eval o).run P w = .ok .skip { w with heap := w.heap.setIfInBounds blk (.map es' clk') } ∨ (execOp a.eval o).run P w = .ok (.value (.tuple #[])) { w with heap := w.heap.setIfInBounds blk (.map es' clk') }) : ActOk P o a w x (.tup .nil) [(r, .vmap K m')] := by
  intro next Q hnext
  unfold Oper.wp
  rcases hrun with hrun | hrun
  · rw [hrun, Oper.upon_skip]
    exact hnext undef _ _ (goes_vmap H.mem H.h h0 h1 h2 A) rfl (show (AVal.tup .nil).C _ [.tuple #[]] from ⟨[], rfl, rfl⟩)
  · rw [hrun, Oper.upon_value]
    exact hnext _ _ _ (goes_vmap H.mem H.h h0 h1 h2 A) rfl (show (AVal.tup .nil).C _ [.tuple #[]] from ⟨[], rfl, rfl⟩)

theorem actMapPut_ok (H : Meets P T ρ get a w x) {o : Oper} {t : TypeId} {vo uo yo : Operand} (ho : o.op = .mapUpdate t vo uo yo) {v u y : AVal} (hv : v.V x (a.eval vo)) (hu : u.V x (a.eval uo)) (hy : y.V x (a.eval yo)) {k : AVal → Ups → Option R} {z : R}
    (hk : actMapPut T get t v u y k = some z) : ∃ u ups, k u ups = some z ∧ ActOk P o a w x u ups := by
  unfold actMapPut at hk
  cases hv0 : isVmap get v with
  | false => rw [hv0] at hk; exact actMapUpdate_ok H ho hv hu hy hk
  | true =>
    rw [hv0, cond_true] at hk
    obtain ⟨r, K, m, clk, kd, kt, et, blk, es, ed, hk, ht, hf, hkd, hed, h0, h1, h2, h3, e1, A⟩ := vmapK_ok H hv hu hk
    rw [vputK_eq] at hk
    refine ⟨_, _, hk, ?_⟩
    have hfind := vfind_ok (w := w) H.tbl hf hkd A
    have hcheck := key_check (w := w) H.tbl hf hkd false
    have hset := fun o' => MapKept.run_setObj_map (P := P) (w := w) o' h3
    cases hi : kidx K kd m with
    | none =>
      refine vmap_done H h0 h1 h2 (es' := es.push { key := a.eval uo, val := a.eval yo, born := clk }) (clk' := clk + 1) ?_ (.inl ?_)
      · simp only [Array.toList_push]; exact all2_push A ⟨hkd, hy⟩
      · simp only [execOp, ho, Instr.mapUpdate, Sem.run_bind, run_underlying ht, Result.andThen_ok, e1, MapKept.run_getObj_map h3, hcheck, hfind, hi, Option.bind_none, hset, Sem.run_pure]
    | some i =>
      obtain ⟨e, c, hm, hc, hr, hq⟩ := vidx_entry A hi
      have hc' : es[i]? = some c := by simpa using hc
      have hsame : c.key = a.eval uo := by
        have hk1 : (AVal.dat true K e.1).V x (a.eval uo) := by rw [← key_same hf hq]; exact hkd
        exact key_val hf hr.1 hk1
      have hstay : (Instr.keyThatStays c.key (a.eval uo)).run P w = .ok (a.eval uo) w := by
        unfold Instr.keyThatStays
        rw [hsame, key_bits hf hkd]; rfl
      refine vmap_done H h0 h1 h2 (es' := es.modify i fun e => { e with key := a.eval uo, val := a.eval yo }) (clk' := clk) ?_ (.inl ?_)
      · rw [Array.toList_modify]
        exact all2_modify A hc ⟨hkd, hy⟩
      · simp only [execOp, ho, Instr.mapUpdate, Sem.run_bind, run_underlying ht, Result.andThen_ok, e1, MapKept.run_getObj_map h3, hcheck, hfind, hi, Option.bind_some, hc, Option.map_some, hc', Option.getD_some, hstay, hset, Sem.run_pure]

theorem actDel_ok (H : Meets P T ρ get a w x) {o : Oper} {t t' : TypeId} {vo uo : Operand} (ho : o.op = .call { callee := .builtin .delete, args := #[vo, uo], argTypes := #[t, t'] }) {v u : AVal} (hv : v.V x (a.eval vo)) (hu : u.V x (a.eval uo)) {k : AVal → Ups → Option R} {z : R}
    (hk : actDel T get t v u k = some z) : ∃ u ups, k u ups = some z ∧ ActOk P o a w x u ups := by
  unfold actDel at hk
  cases hv0 : isVmap get v with
  | false => rw [hv0] at hk; exact actDelete_ok H ho hv hu hk
  | true =>
    rw [hv0, cond_true] at hk
    obtain ⟨r, K, m, clk, kd, kt, et, blk, es, ed, hk, ht, hf, hkd, hed, h0, h1, h2, h3, e1, A⟩ := vmapK_ok H hv hu hk
    rw [vdelK_eq] at hk
    refine ⟨_, _, hk, ?_⟩
    have hfind := vfind_ok (w := w) H.tbl hf hkd A
    have hcheck := key_check (w := w) H.tbl hf hkd es.isEmpty
    have hset := fun o' => MapKept.run_setObj_map (P := P) (w := w) o' h3
    have done : ∀ (m' : List (K.den × AVal)) (es' : Array MapEntry), All2 (VEntryRel x K) m' es'.toList →
        (Builtin.delete_ #[t, t'] o.type #[a.eval vo, a.eval uo]).run P w = .ok (.tuple #[]) { w with heap := w.heap.setIfInBounds blk (.map es' clk) } → ActOk P o a w x (.tup .nil) [(r, .vmap K m')] := by
      intro m' es' A' hrun
      refine vmap_done H h0 h1 h2 (clk' := clk) A' (.inr ?_)
      simp only [execOp, ho, resolve, invoke, builtin, Sem.run_bind, Sem.run_pure, Result.andThen_ok, List.map_toArray, List.map_cons, List.map_nil, hrun]
    cases hi : kidx K kd m with
    | none =>
      refine done _ es A ?_
      simp [Builtin.delete_, run_underlying ht, e1, MapKept.run_getObj_map h3, hcheck, hfind, hi, hset]
    | some i =>
      obtain ⟨e, c, hm, hc, hr, hq⟩ := vidx_entry A hi
      have hc' : es[i]? = some c := by simpa using hc
      have hlt : i < es.size := by
        rcases Nat.lt_or_ge i es.size with h | h
        · exact h
        · rw [Array.getElem?_eq_none h] at hc'; cases hc'
      refine done _ (es.eraseIdxIfInBounds i) ?_ ?_
      · simp only [Array.eraseIdxIfInBounds, hlt, dite_true, Array.toList_eraseIdx]
        exact all2_erase A i
      · simp [Builtin.delete_, run_underlying ht, e1, MapKept.run_getObj_map h3, hcheck, hfind, hi, hc', hset]

theorem actNewMap_ok (H : Meets P T ρ get a w x) {o : Oper} {t : TypeId} (ho : o.op = .makeMap t none) {base : Nat} {k : AVal → Ups → Option R} {z : R}
    (hk : actNewMap T get base t k = some z) : ∃ u ups, k u ups = some z ∧ ActOk P o a w x u ups := by
  unfold actNewMap at hk
  split at hk
  case h_2 => cases hk
  rename_i kt et hut
  split at hk
  · exact actMakeMap_ok H ho hk
  split at hk
  case h_2 => cases hk
  rename_i K hK hg
  refine ⟨_, _, hk, ?_⟩
  intro next Q hnext
  have h0 := H.obj base _ hg
  have G := goes_made (ob := .vmap K []) H.mem H.h h0 rfl (.map #[] 0) (fun _ _ => ⟨w.heap.size, #[], 0, if_pos rfl, if_pos rfl, All2.nil⟩)
  unfold Oper.wp
  have hrun : (execOp a.eval o).run P w = .ok (.value (.map (some w.heap.size))) (w.alloc (.map #[] 0)) := by
    simp only [execOp, ho, Instr.makeMap, Option.map_none, Sem.run_bind, Sem.run_pure, Result.andThen_ok]
    rfl
  rw [hrun, Oper.upon_value]
  refine hnext _ _ _ G rfl (show (AVal.map base).C _ _ from ⟨_, rfl, rfl, ?_⟩)
  unfold MapRel
  rw [made_obj H.mem h0 rfl rfl, if_pos rfl]
  exact ⟨_, if_pos rfl, rfl⟩
end
end Go.Am
