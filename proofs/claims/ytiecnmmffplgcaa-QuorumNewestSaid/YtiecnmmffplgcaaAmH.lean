/- The abstract machine, eighth part: arithmetic, comparisons, conversions, parts of values. -/
import Derived.Test.YtiecnmmffplgcaaAmG
import Derived.Laws.Cover1
namespace Go.Am

def bitsOp (op : BinOp) (k : IntKind) (a b : Int) : Int :=
  match op with
  | .and => k.wrap (BitVec.ofInt k.bits a &&& BitVec.ofInt k.bits b).toNat
  | .or => k.wrap (BitVec.ofInt k.bits a ||| BitVec.ofInt k.bits b).toNat
  | .xor => k.wrap (BitVec.ofInt k.bits a ^^^ BitVec.ofInt k.bits b).toNat
  | _ => k.wrap (BitVec.ofInt k.bits a &&& ~~~ BitVec.ofInt k.bits b).toNat

section defs
variable {R : Type} (T : Tbl)

def binInt (op : BinOp) (kd : IntKind) (a b : Int) (k : AVal → Option R) : Option R :=
  match op with
  | .add => k (.dat true (.int kd) (kd.wrap (a + b)))
  | .sub => k (.dat true (.int kd) (kd.wrap (a - b)))
  | .mul => k (.dat true (.int kd) (kd.wrap (a * b)))
  | .quo => if b = 0 then none else k (.dat true (.int kd) (kd.wrap (a.tdiv b)))
  | .rem => if b = 0 then none else k (.dat true (.int kd) (a.tmod b))
  | .and => k (.dat true (.int kd) (bitsOp .and kd a b))
  | .or => k (.dat true (.int kd) (bitsOp .or kd a b))
  | .xor => k (.dat true (.int kd) (bitsOp .xor kd a b))
  | .andNot => k (.dat true (.int kd) (bitsOp .andNot kd a b))
  | .eql => k (.dat true .bool (decide (a = b)))
  | .neq => k (.dat true .bool (!decide (a = b)))
  | .lss => k (.dat true .bool (decide (a < b)))
  | .leq => k (.dat true .bool (decide (a ≤ b)))
  | .gtr => k (.dat true .bool (decide (b < a)))
  | .geq => k (.dat true .bool (decide (b ≤ a)))
  | _ => none

def shiftInt (op : BinOp) (kd : IntKind) (a b : Int) (k : AVal → Option R) : Option R :=
  match op with
  | .shl => if b < 0 then none else k (.dat true (.int kd) (kd.wrap (a * 2 ^ (min b.toNat kd.bits))))
  | .shr => if b < 0 then none else k (.dat true (.int kd) (a.fdiv (2 ^ (min b.toNat kd.bits))))
  | _ => none

def strLess (a b : ByteArray) : Bool := Op.bytesLess a.toList b.toList
def strEq (a b : ByteArray) : Bool := a.toList == b.toList

def binStr (op : BinOp) (a b : ByteArray) (k : AVal → Option R) : Option R :=
  match op with
  | .add => if a.size + b.size ≤ 9223372036854775807 then k (.dat true .str (a ++ b)) else none
  | .eql => k (.dat true .bool (strEq a b))
  | .neq => k (.dat true .bool (!strEq a b))
  | .lss => k (.dat true .bool (strLess a b))
  | .leq => k (.dat true .bool (strLess a b || strEq a b))
  | .gtr => k (.dat true .bool (!(strLess a b || strEq a b)))
  | .geq => k (.dat true .bool (!strLess a b))
  | _ => none

def binEq (op : BinOp) (r : Bool) (k : AVal → Option R) : Option R :=
  match op with
  | .eql => k (.dat true .bool r)
  | .neq => k (.dat true .bool (!r))
  | _ => none

/-- Is the object of a reference there? -/
def thereK (get : Nat → Option AObj) (r g : Nat) (k : Option R) : Option R :=
  match get r with
  | some (.box _) => k
  | some (.arr g' _ _) => bif Nat.beq g g' then k else none
  | _ => none

def undOf (T : Tbl) (t : TypeId) : Und := match T t with | some d => d.und | none => .other

def actBin (get : Nat → Option AObj) (op : BinOp) (t : TypeId) (x y : AVal) (k : AVal → Option R) : Option R :=
  match x, y with
  | .dat _ (.int kx) a, .dat _ (.int ky) b => match op with
    | .shl => shiftInt .shl kx a b k
    | .shr => shiftInt .shr kx a b k
    | op => if kx = ky then binInt op kx a b k else none
  | .dat _ .bool a, .dat _ .bool b => match undOf T t with
    | .bool => binEq op (a == b) k
    | _ => none
  | .dat _ .str a, .dat _ .str b => binStr op a b k
  | .dat _ τ a, .dat _ τ' b => if h : τ' = τ then (bif τ.agg && fits T τ t && seqCmp T τ [(0, t)] && Nat.ble τ.depth 9999 then binEq op (τ.eqB a (h ▸ b)) k else none) else none
  | .nilp, .nilp => match undOf T t with
    | .ptr _ => binEq op true k
    | _ => none
  | .ptr r g _, .nilp => match undOf T t with
    | .ptr _ => thereK get r g (binEq op false k)
    | _ => none
  | .nilp, .ptr r g _ => match undOf T t with
    | .ptr _ => thereK get r g (binEq op false k)
    | _ => none
  | .ref _ _ _, .nilp => match undOf T t with
    | .ptr _ => binEq op false k
    | _ => none
  | _, _ => none

def actUn (op : UnOp) (x : AVal) (k : AVal → Option R) : Option R :=
  match op, x with
  | .not, .dat _ .bool b => k (.dat true .bool (!b))
  | .neg, .dat _ (.int kd) n => k (.dat true (.int kd) (kd.wrap (0 - n)))
  | .xor, .dat _ (.int kd) n => k (.dat true (.int kd) (bitsOp .xor kd (if kd.signed then -1 else kd.max) n))
  | _, _ => none

def actConv (src dst : TypeId) (x : AVal) (k : AVal → Option R) : Option R :=
  match T src, T dst, x with
  | some _, some { und := .int kd, .. }, .dat _ (.int _) n => k (.dat true (.int kd) (kd.wrap n))
  | _, _, _ => none
end defs

section
variable {P : Program} {T : Tbl} {ρ : Operand → Option AVal} {get : Nat → Option AObj} {a : Act} {w : World} {x : Ctx} {R : Type}

theorem V_int {p : Bool} {k : IntKind} {n : Int} {u : Value} : (AVal.dat p (.int k) n).V x u ↔ u = .int k n := by
  show ([u] = [.int k n]) ↔ _; simp
theorem V_bool {p : Bool} {b : Bool} {u : Value} : (AVal.dat p .bool b).V x u ↔ u = .bool b := by
  show ([u] = [.bool b]) ↔ _; simp
theorem V_str {p : Bool} {s : ByteArray} {u : Value} : (AVal.dat p .str s).V x u ↔ u = .string s := by
  show ([u] = [.string s]) ↔ _; simp
theorem V_nilp {u : Value} : AVal.nilp.V x u ↔ u = .pointer none := by
  show ([u] = [.pointer none]) ↔ _; simp

theorem undOf_ok (hT : TblOk P T) {t : TypeId} {u : Und} (h : undOf T t = u) (hu : u ≠ .other) : UndOk P t u := by
  unfold undOf at h
  split at h
  · rename_i d hd; rw [← h]; exact (hT t d hd).und
  · exact absurd h.symm hu

/-- A pointer to what is there is none that is nil. -/
theorem there_some (hobj : ∀ r ob, get r = some ob → x.σ[r]? = some ob) {r g : Nat} {p : Path} {u : Value} (hv : (AVal.ptr r g p).V x u) {k : Option R} {z : R} (hk : thereK get r g k = some z) :
    k = some z ∧ ∃ ad, u = .pointer (some ad) := by
  unfold thereK at hk
  obtain ⟨c0, hc0, _, hr⟩ := (show (AVal.ptr r g p).C x [u] from hv)
  simp only [List.cons.injEq, and_true] at hc0
  subst hc0
  unfold PtrRel at hr
  split at hk
  · rename_i b hg
    rw [obj_of_get (hobj r _ hg)] at hr
    obtain ⟨a, s, o, _, _, e⟩ := hr
    exact ⟨hk, _, e⟩
  · rename_i g' τ xs hg
    rw [obj_of_get (hobj r _ hg)] at hr
    obtain ⟨hgg, hk⟩ := cond_some hk
    obtain ⟨a, s, o, _, _, e⟩ := hr.2 (Nat.eq_of_beq_eq_true hgg)
    exact ⟨hk, _, e⟩
  · cases hk

theorem binEq_inv {op : BinOp} {r : Bool} {k : AVal → Option R} {z : R} (h : binEq op r k = some z) : (op = .eql ∧ k (.dat true .bool r) = some z) ∨ (op = .neq ∧ k (.dat true .bool (!r)) = some z) := by
  cases op <;> first | exact .inl ⟨rfl, h⟩ | exact .inr ⟨rfl, h⟩ | cases h

theorem run_guard_int {op : BinOp} {t : TypeId} {xo yo : Operand} {k k' : IntKind} {m n : Int} : (eqGuard op t xo yo (.int k m) (.int k' n)).run P w = .ok () w := by cases op <;> rfl
theorem run_guard_bool {op : BinOp} {t : TypeId} {xo yo : Operand} {m n : Bool} : (eqGuard op t xo yo (.bool m) (.bool n)).run P w = .ok () w := by cases op <;> rfl
theorem run_guard_str {op : BinOp} {t : TypeId} {xo yo : Operand} {m n : ByteArray} : (eqGuard op t xo yo (.string m) (.string n)).run P w = .ok () w := by cases op <;> rfl
theorem run_guard_ptr {op : BinOp} {t : TypeId} {xo yo : Operand} {m n : Option Addr} : (eqGuard op t xo yo (.pointer m) (.pointer n)).run P w = .ok () w := by cases op <;> rfl

/-- A binary operation that comes to a value. -/
theorem bin_ok (H : Meets P T ρ get a w x) {o : Oper} {op : BinOp} {t yt : TypeId} {xo yo : Operand} (ho : o.op = .binOp op t xo yo yt) {u v r : Value} (hu : a.eval xo = u) (hv : a.eval yo = v)
    (hg : (eqGuard op t xo yo u v).run P w = .ok () w) (hb : (binOp op t u v).run P w = .ok r w) {av : AVal} (hr : av.V x r) {k : AVal → Ups → Option R} {z : R} (hk : k av [] = some z) :
    ∃ u ups, k u ups = some z ∧ ActOk P o a w x u ups :=
  ⟨_, _, hk, ActOk.value H.mem H.h (by simp only [execOp, ho, hu, hv, Sem.run_bind, hg, Result.andThen_ok, hb, Sem.run_pure]) hr⟩

theorem binInt_ok (H : Meets P T ρ get a w x) {o : Oper} {op : BinOp} {t yt : TypeId} {xo yo : Operand} (ho : o.op = .binOp op t xo yo yt) {kd : IntKind} {m n : Int} (hu : a.eval xo = .int kd m) (hv : a.eval yo = .int kd n)
    {k : AVal → Ups → Option R} {z : R} (hk : binInt op kd m n (fun v => k v []) = some z) : ∃ u ups, k u ups = some z ∧ ActOk P o a w x u ups := by
  have go : ∀ (r : Value) (av : AVal), (binOp op t (.int kd m) (.int kd n)).run P w = .ok r w → av.V x r → k av [] = some z → ∃ u ups, k u ups = some z ∧ ActOk P o a w x u ups :=
    fun r av hb hr hk => bin_ok H ho hu hv run_guard_int hb hr hk
  cases op <;> simp only [binInt] at hk
  case add => exact go _ _ (by simp [binOp, Op.intArith]) (V_int.2 rfl) hk
  case sub => exact go _ _ (by simp [binOp, Op.intArith]) (V_int.2 rfl) hk
  case mul => exact go _ _ (by simp [binOp, Op.intArith]) (V_int.2 rfl) hk
  case quo =>
    split at hk
    · cases hk
    · rename_i h0; exact go _ _ (by simp [binOp, Op.intDiv, h0]) (V_int.2 rfl) hk
  case rem =>
    split at hk
    · cases hk
    · rename_i h0; exact go _ _ (by simp [binOp, Op.intDiv, h0]) (V_int.2 rfl) hk
  case and => exact go (.int kd (bitsOp .and kd m n)) _ (by simp only [binOp]; rw [if_neg (by simp)]; rfl) (V_int.2 rfl) hk
  case or => exact go (.int kd (bitsOp .or kd m n)) _ (by simp only [binOp]; rw [if_neg (by simp)]; rfl) (V_int.2 rfl) hk
  case xor => exact go (.int kd (bitsOp .xor kd m n)) _ (by simp only [binOp]; rw [if_neg (by simp)]; rfl) (V_int.2 rfl) hk
  case andNot => exact go (.int kd (bitsOp .andNot kd m n)) _ (by simp only [binOp]; rw [if_neg (by simp)]; rfl) (V_int.2 rfl) hk
  case shl => cases hk
  case shr => cases hk
  case eql => exact go (.bool (m == n)) _ (by simp [binOp, Op.intCmp]) (V_bool.2 rfl) hk
  case neq => exact go (.bool (m != n)) _ (by simp [binOp, Op.intCmp]) (V_bool.2 rfl) hk
  case lss => exact go (.bool (decide (m < n))) _ (by simp [binOp, Op.intCmp]) (V_bool.2 rfl) hk
  case leq => exact go (.bool (decide (m ≤ n))) _ (by simp [binOp, Op.intCmp]) (V_bool.2 rfl) hk
  case gtr => exact go (.bool (decide (m > n))) _ (by simp [binOp, Op.intCmp]) (V_bool.2 rfl) hk
  case geq => exact go (.bool (decide (m ≥ n))) _ (by simp [binOp, Op.intCmp]) (V_bool.2 rfl) hk

theorem binStr_ok (H : Meets P T ρ get a w x) {o : Oper} {op : BinOp} {t yt : TypeId} {xo yo : Operand} (ho : o.op = .binOp op t xo yo yt) {m n : ByteArray} (hu : a.eval xo = .string m) (hv : a.eval yo = .string n)
    {k : AVal → Ups → Option R} {z : R} (hk : binStr op m n (fun v => k v []) = some z) : ∃ u ups, k u ups = some z ∧ ActOk P o a w x u ups := by
  have go : ∀ (r : Value) (av : AVal), (binOp op t (.string m) (.string n)).run P w = .ok r w → av.V x r → k av [] = some z → ∃ u ups, k u ups = some z ∧ ActOk P o a w x u ups :=
    fun r av hb hr hk => bin_ok H ho hu hv run_guard_str hb hr hk
  cases op <;> simp only [binStr] at hk
  case add =>
    split at hk
    · rename_i h0
      refine go (.string (m ++ n)) _ ?_ (V_str.2 rfl) hk
      simp only [binOp, Op.stringOp]
      rw [if_neg (by simp only [IntKind.max, IntKind.signed, IntKind.bits, if_true]; omega)]
      rfl
    · cases hk
  case eql => exact go (.bool (strEq m n)) _ (by simp [binOp, Op.stringOp, strEq]) (V_bool.2 rfl) hk
  case neq => exact go (.bool (!strEq m n)) _ (by simp [binOp, Op.stringOp, strEq]) (V_bool.2 rfl) hk
  case lss => exact go (.bool (strLess m n)) _ (by simp [binOp, Op.stringOp, strLess]) (V_bool.2 rfl) hk
  case leq => exact go (.bool (strLess m n || strEq m n)) _ (by simp [binOp, Op.stringOp, strEq, strLess]) (V_bool.2 rfl) hk
  case gtr => exact go (.bool (!(strLess m n || strEq m n))) _ (by simp [binOp, Op.stringOp, strEq, strLess]) (V_bool.2 rfl) hk
  case geq => exact go (.bool (!strLess m n)) _ (by simp [binOp, Op.stringOp, strLess]) (V_bool.2 rfl) hk
  all_goals cases hk

/-- '==' or '!=', where the model's equality says r. -/
theorem binEq_ok (H : Meets P T ρ get a w x) {o : Oper} {op : BinOp} {t yt : TypeId} {xo yo : Operand} (ho : o.op = .binOp op t xo yo yt) {u v : Value} {r : Bool} (hu : a.eval xo = u) (hv : a.eval yo = v)
    (hg : (eqGuard op t xo yo u v).run P w = .ok () w) (h1 : (binOp .eql t u v).run P w = .ok (.bool r) w) (h2 : (binOp .neq t u v).run P w = .ok (.bool (!r)) w)
    {k : AVal → Ups → Option R} {z : R} (hk : binEq op r (fun v => k v []) = some z) : ∃ u ups, k u ups = some z ∧ ActOk P o a w x u ups := by
  rcases binEq_inv hk with ⟨rfl, hk⟩ | ⟨rfl, hk⟩
  · exact bin_ok H ho hu hv hg h1 (V_bool.2 rfl) hk
  · exact bin_ok H ho hu hv hg h2 (V_bool.2 rfl) hk

theorem eqIn_ptr_nil (d : Nat) {t e : TypeId} (h : P.underlying t = some (.pointer e)) : (Op.equalIn (d + 1) t (.pointer none) (.pointer none)).run P w = .ok true w := by simp [Op.equalIn, run_underlying h]
theorem eqIn_ptr_some (d : Nat) {t e : TypeId} (ad : Addr) (h : P.underlying t = some (.pointer e)) : (Op.equalIn (d + 1) t (.pointer (some ad)) (.pointer none)).run P w = .ok false w := by simp [Op.equalIn, run_underlying h]
theorem eqIn_nil_some (d : Nat) {t e : TypeId} (ad : Addr) (h : P.underlying t = some (.pointer e)) : (Op.equalIn (d + 1) t (.pointer none) (.pointer (some ad))).run P w = .ok false w := by simp [Op.equalIn, run_underlying h]

theorem V_dat {p : Bool} {t : Ty} {d : t.den} {u : Value} (h : (AVal.dat p t d).V x u) : ∃ cs, t.Rel x.h (x.S p) d cs ∧ u = valueOf t.agg cs := by
  obtain ⟨h1, h2, h3⟩ := V_inv (v := .dat p t d) rfl h
  refine ⟨_, h1, ?_⟩
  by_cases ha : t.agg = true
  · obtain ⟨c, rfl⟩ := h2 ha
    simp [valueOf, ha, Value.cells]
  · rw [h3 (by simpa [AVal.agg] using ha)]; simp [valueOf, ha]

theorem actBin_ok (H : Meets P T ρ get a w x) {o : Oper} {op : BinOp} {t yt : TypeId} {xo yo : Operand} (ho : o.op = .binOp op t xo yo yt) {u v : AVal} (hu : u.V x (a.eval xo)) (hv : v.V x (a.eval yo))
    {k : AVal → Ups → Option R} {z : R} (hk : actBin T get op t u v (fun v => k v []) = some z) : ∃ u ups, k u ups = some z ∧ ActOk P o a w x u ups := by
  unfold actBin at hk
  split at hk
  · rename_i kx m _ ky n
    have e1 := V_int.1 hu
    have e2 := V_int.1 hv
    split at hk
    · simp only [shiftInt] at hk
      split at hk
      · cases hk
      · rename_i h0; exact bin_ok H ho e1 e2 run_guard_int (by simp [binOp, Op.shift, h0]) (V_int.2 rfl) hk
    · simp only [shiftInt] at hk
      split at hk
      · cases hk
      · rename_i h0; exact bin_ok H ho e1 e2 run_guard_int (by simp [binOp, Op.shift, h0]) (V_int.2 rfl) hk
    · split at hk
      · rename_i hkk; subst hkk; exact binInt_ok H ho e1 e2 hk
      · cases hk
  · rename_i m _ n
    split at hk
    · rename_i hu2
      have hb := undOf_ok H.tbl hu2 (by simp)
      have := run_equal_bool (w := w) (P := P) t m n hb
      exact binEq_ok H ho (V_bool.1 hu) (V_bool.1 hv) run_guard_bool (by simp [binOp, this]) (by simp [binOp, this]) hk
    · cases hk
  · exact binStr_ok H ho (V_str.1 hu) (V_str.1 hv) hk
  · rename_i τ m _ τ' n _ _ _
    split at hk
    · rename_i hτ
      subst hτ
      obtain ⟨hc, hk⟩ := cond_some hk
      rw [Bool.and_eq_true, Bool.and_eq_true, Bool.and_eq_true] at hc
      obtain ⟨⟨⟨hag, hf⟩, hcm⟩, hdp⟩ := hc
      obtain ⟨cs, r1, e1⟩ := V_dat hu
      obtain ⟨ds, r2, e2⟩ := V_dat hv
      have heq := (eq_sound H.tbl w τ').1 (0, t) 0 10000 m n cs ds hf hcm r1 r2 (by have := Nat.le_of_ble_eq_true hdp; omega)
      simp only [valueOf, hag, if_true] at e1 e2 heq
      have hpl : P.eqGuardType P.depth t = false := by
        cases τ' <;> simp only [Ty.agg] at hag <;> try cases hag
        all_goals
          simp only [seqCmp] at hcm
          split at hcm
          · rename_i hd; exact ((H.tbl _ _ hd).plain rfl).2
          · cases hcm
      refine binEq_ok H ho e1 e2 (run_eqGuard_agg w op t xo yo _ _ hpl) ?_ ?_ hk
      · rw [run_eql_struct, heq]; rfl
      · rw [run_neq_struct, heq]; rfl
    · cases hk
  · split at hk
    · rename_i e hu2
      have hb := undOf_ok H.tbl hu2 (by simp)
      have he : (Op.equal t (.pointer none) (.pointer none)).run P w = .ok true w := eqIn_ptr_nil 9999 hb
      exact binEq_ok H ho (V_nilp.1 hu) (V_nilp.1 hv) run_guard_ptr (by simp [binOp, he]) (by simp [binOp, he]) hk
    · cases hk
  · split at hk
    · rename_i e hu2
      have hb := undOf_ok H.tbl hu2 (by simp)
      obtain ⟨hk, ad, e1⟩ := there_some H.obj hu hk
      have he : (Op.equal t (.pointer (some ad)) (.pointer none)).run P w = .ok false w := eqIn_ptr_some 9999 ad hb
      exact binEq_ok H ho e1 (V_nilp.1 hv) run_guard_ptr (by simp [binOp, he]) (by simp [binOp, he]) hk
    · cases hk
  · split at hk
    · rename_i e hu2
      have hb := undOf_ok H.tbl hu2 (by simp)
      obtain ⟨hk, ad, e1⟩ := there_some H.obj hv hk
      have he : (Op.equal t (.pointer none) (.pointer (some ad))).run P w = .ok false w := eqIn_nil_some 9999 ad hb
      exact binEq_ok H ho (V_nilp.1 hu) e1 run_guard_ptr (by simp [binOp, he]) (by simp [binOp, he]) hk
    · cases hk
  · split at hk
    · rename_i e hu2
      have hb := undOf_ok H.tbl hu2 (by simp)
      obtain ⟨b, of, ds, e1, _⟩ := (show (AVal.ref _ _ _).C x [a.eval xo] from hu)
      simp only [List.cons.injEq, and_true] at e1
      have he : ∀ ad, (Op.equal t (.pointer (some ad)) (.pointer none)).run P w = .ok false w := fun ad => eqIn_ptr_some 9999 ad hb
      exact binEq_ok H ho e1 (V_nilp.1 hv) run_guard_ptr (by simp [binOp, he]) (by simp [binOp, he]) hk
    · cases hk
  · cases hk

theorem actUn_ok (H : Meets P T ρ get a w x) {o : Oper} {op : UnOp} {t : TypeId} {xo : Operand} (ho : o.op = .unOp op t xo) {u : AVal} (hu : u.V x (a.eval xo))
    {k : AVal → Ups → Option R} {z : R} (hk : actUn op u (fun v => k v []) = some z) : ∃ u ups, k u ups = some z ∧ ActOk P o a w x u ups := by
  unfold actUn at hk
  split at hk
  · have e := V_bool.1 hu
    exact ⟨_, _, hk, ActOk.value H.mem H.h (by simp [execOp, ho, e, Op.unary]) (V_bool.2 rfl)⟩
  · have e := V_int.1 hu
    exact ⟨_, _, hk, ActOk.value H.mem H.h (by simp [execOp, ho, e, Op.unary, Op.intArith]) (V_int.2 rfl)⟩
  · have e := V_int.1 hu
    exact ⟨_, _, hk, ActOk.value H.mem H.h (by simp only [execOp, ho, e, Op.unary, Op.intBits, Sem.run_bind]; rfl) (V_int.2 rfl)⟩
  · cases hk

theorem actConv_ok (H : Meets P T ρ get a w x) {o : Oper} {src dst : TypeId} {xo : Operand} (ho : o.op = .convert src dst xo) {u : AVal} (hu : u.V x (a.eval xo))
    {k : AVal → Ups → Option R} {z : R} (hk : actConv T src dst u (fun v => k v []) = some z) : ∃ u ups, k u ups = some z ∧ ActOk P o a w x u ups := by
  unfold actConv at hk
  split at hk
  · rename_i d kd sz by_ zr cm _ kd' n hs hd
    have e := V_int.1 hu
    have h2 := (H.tbl _ _ hd).und
    have hs' : ∃ e, P.underlying src = some e := by
      have := (H.tbl _ _ hs).und
      cases hq : d.und <;> rw [hq] at this
      case struct => obtain ⟨f, h, _⟩ := this; exact ⟨_, h⟩
      case other => obtain ⟨f, h, _⟩ := this; exact ⟨_, h⟩
      all_goals exact ⟨_, this⟩
    obtain ⟨e', hs'⟩ := hs'
    refine ⟨_, _, hk, ActOk.value H.mem H.h (u := .int kd (kd.wrap n)) ?_ (V_int.2 rfl)⟩
    simp [execOp, ho, e, convert, run_underlying hs', run_underlying (show P.underlying dst = _ from h2), Conv.intToInt]
  · cases hk
end
end Go.Am
