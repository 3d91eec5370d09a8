/- The abstract machine, ninth part: parts of values, elements, literals, lengths. -/
import Derived.Test.YtiecnmmffplgcaaAmH
namespace Go.Am

/-- A number. -/
def AVal.int? : AVal → Option Int
  | .dat _ (.int _) n => some n
  | _ => none

def byteAt (s : ByteArray) (i : Nat) : Int := ((s.data[i]?.getD 0).toNat : Int)

section defs
variable {R : Type} (T : Tbl)

def actField (t : TypeId) (v : AVal) (j : Nat) (k : AVal → Option R) : Option R :=
  match T t with
  | some { und := .struct fs, .. } => match fs[j]? with
    | some (off, ft) => match T ft with
      | some fd => bif v.agg && v.flat && v.sh.leads (pairPath fs.length j) off fd.size then
          v.getK (pairPath fs.length j) fun u => bif fd.isAs u then k u else none else none
      | none => none
    | none => none
  | _ => none

def actIndex (t : TypeId) (v i : AVal) (k : AVal → Option R) : Option R :=
  match v, i.int? with
  | .dat _ .str s, some n => match undOf T t with
    | .str => if 0 ≤ n ∧ n < s.size then k (.dat true (.int .u8) (byteAt s n.toNat)) else none
    | _ => none
  | .dat q (.arr m τ) xs, some n => match undOf T t with
    | .arr m' e => match T e with
      | some ed => bif Nat.beq m m' && Nat.beq ed.size τ.size && (ed.und.agg == τ.agg) then
          (if 0 ≤ n ∧ n < m then match xs[n.toNat]? with | some y => k (.dat q τ y) | none => none else none) else none
      | none => none
    | _ => none
  | _, _ => none

def actIndexAddr (get : Nat → Option AObj) (t : TypeId) (v i : AVal) (k : AVal → Option R) : Option R :=
  match i.int? with
  | some n => match undOf T t with
    | .arr m e => match T e with
      | some ed => match v with
        | .ptr r g p => match get r with
          | some ob => match shapeOf ob g with
            | some s => match s.at p with
              | some (.arr es m', _) => bif Nat.beq m m' && Nat.beq ed.size es.size then
                  (if 0 ≤ n ∧ n < m then k (.ptr r g (p ++ [.idx n.toNat])) else none) else none
              | _ => none
            | none => none
          | none => none
        | _ => none
      | none => none
    | .slice e => match T e with
      | some ed => match v with
        | .slc r g => match get r with
          | some (.arr g' τ xs) => bif Nat.beq g g' && Nat.beq ed.size τ.size then
              (if 0 ≤ n ∧ n < xs.length then k (.ptr r g [.idx n.toNat]) else none) else none
          | _ => none
        | .sub r g lo len _ => match get r with
          | some (.arr g' τ _) => bif Nat.beq g g' && Nat.beq ed.size τ.size then
              (if 0 ≤ n ∧ n < len then k (.ptr r g [.idx (lo + n.toNat)]) else none) else none
          | _ => none
        | .dat own (.slice τ) xs => bif Nat.beq ed.size τ.size then
            (if 0 ≤ n then match xs[n.toNat]? with | some y => k (.ref own τ y) | none => none else none) else none
        | _ => none
      | none => none
    | _ => none
  | none => none

def buildK (fs : List (Nat × TypeId)) (n : Nat) : AVal → List (Nat × AVal) → (AVal → Option R) → Option R
  | acc, [], k => k acc
  | acc, (j, u) :: rest, k => match fs[j]? with
    | some (off, ft) => match T ft with
      | some fd => bif acc.sh.leads (pairPath n j) off fd.size && Nat.beq u.sh.size fd.size && u.flat then
          acc.setK (pairPath n j) u fun acc' => buildK fs n acc' rest k else none
      | none => none
    | none => none

def buildArrK (es : Nat) : AVal → List (Nat × AVal) → (AVal → Option R) → Option R
  | acc, [], k => k acc
  | acc, (j, u) :: rest, k => bif Nat.beq u.sh.size es && u.flat then
      acc.setK [.idx j] u fun acc' => buildArrK es acc' rest k else none

def actBuild (t : TypeId) (parts : List (Nat × AVal)) (k : AVal → Option R) : Option R :=
  match T t with
  | some d => bif d.zero.agg && d.zero.flat then (match d.und with
    | .struct fs => buildK T fs fs.length d.zero parts fun u => bif u.agg && u.flat then k u else none
    | .arr _ e => match T e with
      | some ed => match d.zero.sh with
        | .arr es _ => bif Nat.beq ed.size es.size then buildArrK ed.size d.zero parts fun u => bif u.agg && u.flat then k u else none else none
        | _ => none
      | none => none
    | _ => none) else none
  | none => none

def actExtract (v : AVal) (j : Nat) (k : AVal → Option R) : Option R :=
  match v with
  | .tup vs => nth vs j
  | _ => none
where nth : AVal → Nat → Option R
  | .cons u _, 0 => k u
  | .cons _ b, n + 1 => nth b n
  | _, _ => none

def actLen (get : Nat → Option AObj) (t : TypeId) (v : AVal) (k : AVal → Option R) : Option R :=
  match v with
  | .dat _ .str s => match undOf T t with | .str => k (.dat true (.int .i64) s.size) | _ => none
  | .dat _ (.slice _) xs => match undOf T t with | .slice _ => k (.dat true (.int .i64) xs.length) | _ => none
  | .slc r g => match undOf T t with
    | .slice _ => match get r with
      | some (.arr g' _ xs) => bif Nat.beq g g' then k (.dat true (.int .i64) xs.length) else none
      | _ => none
    | _ => none
  | .sub r g _ len _ => match undOf T t with
    | .slice _ => match get r with
      | some (.arr g' _ _) => bif Nat.beq g g' then k (.dat true (.int .i64) len) else none
      | _ => none
    | _ => none
  | .nils => match undOf T t with | .slice _ => k (.dat true (.int .i64) 0) | _ => none
  | .map r => match undOf T t with
    | .map _ _ => match get r with
      | some (.map _ _ m _ _) => k (.dat true (.int .i64) m.length)
      | _ => none
    | _ => none
  | .nilm => match undOf T t with | .map _ _ => k (.dat true (.int .i64) 0) | _ => none
  | _ => match undOf T t with | .arr n _ => k (.dat true (.int .i64) n) | _ => none

def actNilCheck (get : Nat → Option AObj) (v : AVal) (k : Option R) : Option R :=
  match v with
  | .ptr r g _ => thereK get r g k
  | .ref _ _ _ => k
  | .fn _ _ => k
  | _ => none
end defs

section
variable {P : Program} {T : Tbl} {ρ : Operand → Option AVal} {get : Nat → Option AObj} {a : Act} {w : World} {x : Ctx} {R : Type}

theorem V_int? {v : AVal} {n : Int} {u : Value} (h : v.int? = some n) (hv : v.V x u) : ∃ k, u = .int k n := by
  unfold AVal.int? at h
  split at h
  · cases h; exact ⟨_, V_int.1 hv⟩
  · cases h

theorem isAs_one {d : TD} {u : AVal} (h : d.isAs u = true) {x : Ctx} {cs : List Value} (hc : u.C x cs) (hf : u.flat = true) : d.size = cs.length ∧ (d.und.agg = false → cs.length = 1) := by
  obtain ⟨h1, h2⟩ := isAs_size h
  exact ⟨by rw [h1, AVal.C.length _ _ hc], fun ha => agg_one hc (h2 ▸ ha) hf⟩

theorem actField_ok (H : Meets P T ρ get a w x) {o : Oper} {t : TypeId} {j : Nat} {vo : Operand} (ho : o.op = .field t vo j) {v : AVal} (hv : v.V x (a.eval vo)) {k : AVal → Ups → Option R} {z : R}
    (hk : actField T t v j (fun v => k v []) = some z) : ∃ u ups, k u ups = some z ∧ ActOk P o a w x u ups := by
  unfold actField at hk
  split at hk
  case h_2 => cases hk
  rename_i fs size bytes zero cmp hd
  split at hk
  case h_2 => cases hk
  rename_i off ft hj
  split at hk
  case h_2 => cases hk
  rename_i fd hfd
  obtain ⟨hc, hk⟩ := cond_some hk
  rw [Bool.and_eq_true, Bool.and_eq_true] at hc
  obtain ⟨⟨hag, hfl⟩, hl⟩ := hc
  obtain ⟨s', hq, hsz⟩ := leads_at hl
  obtain ⟨u, hget, hk⟩ := getK_inv _ _ _ _ hk
  obtain ⟨his, hk⟩ := cond_some hk
  obtain ⟨hC, hA, _⟩ := V_inv hfl hv
  obtain ⟨c, hc⟩ := hA hag
  obtain ⟨of', hat, pre, mid, post, e, hp, hm⟩ := getK_sound _ v u _ hC hget
  rw [hq] at hat; cases hat
  obtain ⟨fields, hund, hfs, _⟩ := (show UndOk P t (.struct fs) from (H.tbl t _ hd).und)
  obtain ⟨f, hf1, hf2, hf3⟩ := field_of hfs hj
  have huf := flat_getK _ _ _ hfl hget
  obtain ⟨g1, g2⟩ := isAs_one his hm huf
  rw [hc] at e
  have hpart := part_at H.tbl hfd (w := w) (c := c) (pre := pre) (mid := mid) (post := post) (by simpa [Value.cells] using e) g1 g2
  rw [hp] at hpart
  refine ⟨_, _, hk, ActOk.value (u := valueOf u.agg mid) H.mem H.h ?_ (V_valueOf hm fun ha => agg_one hm ha huf)⟩
  simp only [execOp, ho, Instr.field, Sem.run_bind, run_underlying hund, Result.andThen_ok, hf1, hc, asAgg, Sem.run_pure, hf3, hf2, hpart, (isAs_size his).2]

theorem getElem?_bytes (s : ByteArray) (i : Nat) (h : i < s.size) : s[i]? = some (s[i]'h) := by
  simp [h]

theorem byteAt_eq (s : ByteArray) (i : Nat) (h : i < s.size) : byteAt s i = ((s[i]'h).toNat : Int) := by
  unfold byteAt
  have : s.data[i]? = some (s[i]'h) := by
    have h' : i < s.data.size := h
    rw [Array.getElem?_eq_getElem h']; rfl
  rw [this]; rfl

theorem actIndex_ok (H : Meets P T ρ get a w x) {o : Oper} {t : TypeId} {vo io : Operand} (ho : o.op = .index t vo io) {v i : AVal} (hv : v.V x (a.eval vo)) (hi : i.V x (a.eval io)) {k : AVal → Ups → Option R} {z : R}
    (hk : actIndex T t v i (fun v => k v []) = some z) : ∃ u ups, k u ups = some z ∧ ActOk P o a w x u ups := by
  unfold actIndex at hk
  split at hk
  · rename_i _ s n hi'
    have e1 := V_str.1 hv
    obtain ⟨ki, e2⟩ := V_int? hi' hi
    split at hk
    · rename_i hu
      have hb := undOf_ok H.tbl hu (by simp)
      split at hk
      · rename_i hn
        have hlt : n.toNat < s.size := by omega
        refine ⟨_, _, hk, ActOk.value H.mem H.h (u := .int .u8 (byteAt s n.toNat)) ?_ (V_int.2 rfl)⟩
        simp only [execOp, ho, Instr.index, e1, e2, asIntOf, Sem.run_bind, Sem.run_pure, Result.andThen_ok, run_underlying (show P.underlying t = _ from hb), hn.1, if_true, getElem?_bytes s _ hlt, byteAt_eq s _ hlt]
      · cases hk
    · cases hk
  · rename_i q m τ xs n hi'
    obtain ⟨ki, e2⟩ := V_int? hi' hi
    split at hk
    case h_2 => cases hk
    rename_i m' e hu
    have hb := undOf_ok H.tbl hu (by simp)
    split at hk
    case h_2 => cases hk
    rename_i ed hed
    obtain ⟨hc, hk⟩ := cond_some hk
    rw [Bool.and_eq_true, Bool.and_eq_true] at hc
    obtain ⟨⟨h1, h2⟩, h3⟩ := hc
    have hmm := Nat.eq_of_beq_eq_true h1
    have h2 := Nat.eq_of_beq_eq_true h2
    split at hk
    case isFalse => cases hk
    rename_i hn
    rw [hmm] at hn
    split at hk
    case h_2 => cases hk
    rename_i y hy
    obtain ⟨cs, ⟨hl, css, rfl, A⟩, e1⟩ := V_dat hv
    obtain ⟨c, hc, hr⟩ := A.get hy
    obtain ⟨post, p1, p2, _⟩ := flatten_part A.lengths hc
    have hlc := Ty.Rel.length _ _ _ hr
    have hpart := part_at H.tbl hed (w := w) (c := css.flatten.toArray) (pre := (css.take n.toNat).flatten) (mid := c) (post := post) (by simpa using p1) (by rw [h2, hlc]) (fun ha => by rw [hlc]; exact Ty.agg_one (by rw [← ha]; simpa using (beq_iff_eq.1 h3).symm))
    rw [p2, ← h2] at hpart
    have hcr : (AVal.dat q τ y).C x c := hr
    refine ⟨_, _, hk, ActOk.value H.mem H.h (u := valueOf (AVal.dat q τ y).agg c) ?_ (V_valueOf hcr fun ha => agg_one hcr ha rfl)⟩
    have e3 : valueOf (Ty.arr m τ).agg css.flatten = .agg css.flatten.toArray := rfl
    rw [e3] at e1
    simp only [execOp, ho, Instr.index, e1, e2, asIntOf, Sem.run_bind, Sem.run_pure, Result.andThen_ok, run_underlying (show P.underlying t = _ from hb), hn, and_self, if_true, (H.tbl _ _ hed).sizeOf, hpart]
    rw [show ed.und.agg = τ.agg from beq_iff_eq.1 h3]; rfl
  · cases hk

theorem ptr_elem {r g : Nat} {p : Path} {u : Value} {ob : AObj} (hobj : x.obj r = ob) (hv : (AVal.ptr r g p).V x u) {s es : Sh} {m o' : Nat} (hs : shapeOf ob g = some s) (hp : s.at p = some (.arr es m, o')) (i : Nat) :
    ∃ b o, u = .pointer (some ⟨b, o, none⟩) ∧ (AVal.ptr r g (p ++ [.idx i])).V x (.pointer (some ⟨b, o + i * es.size, none⟩)) :=
  ptr_part hobj hv hs hp (q := [.idx i]) (s'' := es) (off := i * es.size) (by simp [Sh.at])

theorem actIndexAddr_ok (H : Meets P T ρ get a w x) {o : Oper} {t : TypeId} {vo io : Operand} (ho : o.op = .indexAddr t vo io) {v i : AVal} (hv : v.V x (a.eval vo)) (hi : i.V x (a.eval io)) {k : AVal → Ups → Option R} {z : R}
    (hk : actIndexAddr T get t v i (fun v => k v []) = some z) : ∃ u ups, k u ups = some z ∧ ActOk P o a w x u ups := by
  unfold actIndexAddr at hk
  split at hk
  case h_2 => cases hk
  rename_i n hi'
  obtain ⟨ki, e2⟩ := V_int? hi' hi
  split at hk
  · rename_i m e hu
    have hb := undOf_ok H.tbl hu (by simp)
    split at hk
    case h_2 => cases hk
    rename_i ed hed
    split at hk
    case h_2 => cases hk
    rename_i r g p
    split at hk
    case h_2 => cases hk
    rename_i ob hg
    split at hk
    case h_2 => cases hk
    rename_i s hs
    split at hk
    case h_2 => cases hk
    rename_i es m' o' hp
    obtain ⟨hc, hk⟩ := cond_some hk
    rw [Bool.and_eq_true] at hc
    have h2 := Nat.eq_of_beq_eq_true hc.2
    split at hk
    case isFalse => cases hk
    rename_i hn
    obtain ⟨b, of, e1, hv'⟩ := ptr_elem (obj_of_get (H.obj r ob hg)) hv hs hp n.toNat
    refine ⟨_, _, hk, ActOk.value H.mem H.h ?_ hv'⟩
    simp only [execOp, ho, Instr.indexAt, e1, e2, asIntOf, Sem.run_bind, Sem.run_pure, Result.andThen_ok, run_underlying (show P.underlying t = _ from hb), Instr.sureAddr, hn, and_self, if_true, (H.tbl _ _ hed).sizeOf, add_mk, h2]
  · rename_i e hu
    have hb := undOf_ok H.tbl hu (by simp)
    split at hk
    case h_2 => cases hk
    rename_i ed hed
    split at hk
    · rename_i r g
      split at hk
      case h_2 => cases hk
      rename_i g' τ xs hg
      obtain ⟨hc, hk⟩ := cond_some hk
      rw [Bool.and_eq_true] at hc
      have h2 := Nat.eq_of_beq_eq_true hc.2
      split at hk
      case isFalse => cases hk
      rename_i hn
      have hobj := obj_of_get (H.obj r _ hg)
      obtain ⟨c0, hc0, _, hr⟩ := (show (AVal.slc r g).C x [a.eval vo] from hv)
      simp only [List.cons.injEq, and_true] at hc0
      subst hc0
      unfold SlcRel at hr
      rw [hobj] at hr
      have hr := hr.2 (Nat.eq_of_beq_eq_true hc.1)
      have hrel := H.mem.objs r
      rw [hobj] at hrel
      rcases hrel with ⟨h1, h3⟩ | ⟨b, of, c, e', css, h1, _⟩
      · rw [h3] at hn; simp at hn; omega
      · simp only [h1] at hr
        obtain ⟨cap, e1, _, _⟩ := hr
        refine ⟨_, _, hk, ActOk.value H.mem H.h (u := .pointer (some ⟨b, of + n.toNat * τ.size, none⟩)) ?_ (show (AVal.ptr r g [.idx n.toNat]).C x _ from ⟨_, rfl, rfl, ?_⟩)⟩
        · simp only [execOp, ho, Instr.indexAt, e1, e2, asIntOf, Sem.run_bind, Sem.run_pure, Result.andThen_ok, run_underlying (show P.underlying t = _ from hb), hn, and_self, if_true, (H.tbl _ _ hed).sizeOf, add_mk, h2]
        · unfold PtrRel; rw [hobj]
          exact ⟨Nat.le_of_eq (Nat.eq_of_beq_eq_true hc.1), fun _ => ⟨⟨b, of, none⟩, τ.sh, n.toNat * τ.size, h1, by simp [Sh.at, Ty.sh_size], rfl⟩⟩
    · rename_i r g lo len ex
      split at hk
      case h_2 => cases hk
      rename_i g' τ xs hg
      obtain ⟨hc, hk⟩ := cond_some hk
      rw [Bool.and_eq_true] at hc
      have h2 := Nat.eq_of_beq_eq_true hc.2
      split at hk
      case isFalse => cases hk
      rename_i hn
      have hobj := obj_of_get (H.obj r _ hg)
      obtain ⟨c0, hc0, _, hr⟩ := (show (AVal.sub r g lo len ex).C x [a.eval vo] from hv)
      simp only [List.cons.injEq, and_true] at hc0
      subst hc0
      unfold SubRel at hr
      rw [hobj] at hr
      obtain ⟨hle, base, cap, e1, h3, _, _, h4, h5⟩ := hr.2 (Nat.eq_of_beq_eq_true hc.1)
      have hrel := H.mem.objs r
      rw [hobj] at hrel
      cases base with
      | none => have := h4 rfl; omega
      | some b0 =>
        obtain ⟨a0, h6, h8⟩ := h5 b0 rfl (by omega)
        rcases hrel with ⟨h1, _⟩ | ⟨b, of, c, e', css, h1, _⟩
        · rw [h1] at h6; cases h6
        · rw [h1] at h6; cases h6
          rw [add_mk] at h8; subst h8
          refine ⟨_, _, hk, ActOk.value H.mem H.h (u := .pointer (some ⟨b, of + lo * τ.size + n.toNat * τ.size, none⟩)) ?_ (show (AVal.ptr r g [.idx (lo + n.toNat)]).C x _ from ⟨_, rfl, rfl, ?_⟩)⟩
          · simp only [execOp, ho, Instr.indexAt, e1, e2, asIntOf, Sem.run_bind, Sem.run_pure, Result.andThen_ok, run_underlying (show P.underlying t = _ from hb), hn, and_self, if_true, (H.tbl _ _ hed).sizeOf, add_mk, h2]
          · unfold PtrRel; rw [hobj]
            exact ⟨Nat.le_of_eq (Nat.eq_of_beq_eq_true hc.1), fun _ => ⟨⟨b, of, none⟩, τ.sh, (lo + n.toNat) * τ.size, h1, by simp [Sh.at, Ty.sh_size], by simp [ptrTo, Nat.add_mul, Nat.add_assoc]⟩⟩
    · rename_i own τ xs
      obtain ⟨hc, hk⟩ := cond_some hk
      have h2 := Nat.eq_of_beq_eq_true hc
      split at hk
      case isFalse => cases hk
      rename_i hn
      split at hk
      case h_2 => cases hk
      rename_i y hy
      have hlt : n.toNat < xs.length := (List.getElem?_eq_some_iff.1 hy).1
      obtain ⟨cs, ⟨base, len, cap, rfl, hl, h3, h4, h5⟩, e1⟩ := V_dat hv
      obtain ⟨b, of, rfl, h7, css, ⟨c, e', fr, h9, h10⟩, A⟩ := h5 (by omega)
      obtain ⟨cc, hcc, hr⟩ := A.get hy
      obtain ⟨post, p1, p2, _⟩ := flatten_part A.lengths hcc
      have e1 : a.eval vo = .slice (some ⟨b, of, none⟩) len cap := e1
      refine ⟨_, _, hk, ActOk.value H.mem H.h (u := .pointer (some ⟨b, of + n.toNat * τ.size, none⟩)) ?_ (show (AVal.ref own τ y).C x _ from ⟨b, _, cc, rfl, h7, ⟨c, e', fr, h9, fun j v hv => ?_⟩, hr⟩)⟩
      · have hn2 : 0 ≤ n ∧ n < (len : Int) := ⟨hn, by omega⟩
        simp only [execOp, ho, Instr.indexAt, e1, e2, asIntOf, Sem.run_bind, Sem.run_pure, Result.andThen_ok, run_underlying (show P.underlying t = _ from hb), hn2, and_self, if_true, (H.tbl _ _ hed).sizeOf, add_mk, h2]
      · have := h10 (n.toNat * τ.size + j) v (by
          rw [p1, List.append_assoc, List.getElem?_append_right (by omega), p2, show n.toNat * τ.size + j - n.toNat * τ.size = j by omega, List.getElem?_append_left (List.getElem?_eq_some_iff.1 hv).1]; exact hv)
        rw [← this]; congr 1; omega
    · cases hk
  · cases hk
end
end Go.Am
