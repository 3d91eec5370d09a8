/- The abstract machine: L LA LB LC. -/
import Derived.Test.YtbamjkhnnlekpaaAmK
import Derived.Deep.Upon
import Derived.Deep.AppendSrc
import Derived.Laws.MakeOwn
/- The abstract machine, twelfth part: slices that the call makes, and appends. -/
namespace Go.Am

section defs
variable {R : Type} (T : Tbl)

/-- The type of data that a Go type's values are. -/
def tyList : List (Option Ty) → Option Ty
  | [] => some .unit
  | [some t] => some (.one t)
  | some t :: l => match tyList l with
    | some (.one u) => some (.pair t u)
    | some u => some (.pair t u)
    | none => none
  | none :: _ => none

def tyOf (T : Tbl) : Nat → TypeId → Option Ty
  | 0, _ => none
  | n + 1, t => match undOf T t with
    | .int k => some (.int k)
    | .bool => some .bool
    | .str => some .str
    | .arr m e => match tyOf T n e with | some u => some (.arr m u) | none => none
    | .slice e => match tyOf T n e with | some u => some (.slice u) | none => none
    | .struct fs => tyList (fs.map fun f => tyOf T n f.2)
    | _ => none

/-- The type of a row's elements, as data: pointers are to the elements of the one pool. -/
def tyEl (T : Tbl) (e : TypeId) : Option Ty := match undOf T e with
  | .ptr _ => some (.pref 0)
  | _ => tyOf T 12 e

/-- A value as data. -/
def toDat : (t : Ty) → AVal → Option t.den
  | t, .dat q t' d => bif q || t'.plain then (if h : t' = t then some (h ▸ d) else none) else none
  | .slice _, .nils => some []
  | .pref _, .nilp => some none
  | .pair a b, .pair u v => match toDat a u, toDat b v with
    | some d, some e => some (d, e)
    | _, _ => none
  | .one a, .one u => toDat a u
  | _, _ => none

/-- A literal's parts as data. -/
def datParts (τ : Ty) : List (Nat × AVal) → Option (List (Nat × AVal))
  | [] => some []
  | (j, u) :: l => match toDat τ u, datParts τ l with
    | some d, some m => some ((j, .dat true τ d) :: m)
    | _, _ => none

def actBuildSlice (get : Nat → Option AObj) (base : Nat) (t : TypeId) (len : Nat) (parts : List (Nat × AVal)) (k : AVal → Ups → Option R) : Option R :=
  match undOf T t with
  | .slice e => match T e, tyEl T e with
    | some ed, some τ => match toDat τ ed.zero, datParts τ parts, get base with
      | some z, some parts, some .free => bif Nat.beq ed.size τ.size && (ed.und.agg == τ.agg) && Nat.ble (len * ed.size) 16777216 && ed.zero.flat then
          buildArrK ed.size (.dat true (.arr len τ) (List.replicate len z)) parts fun
            | .dat true (.arr n τ') ys => bif Nat.beq n len && Nat.beq τ'.size ed.size then k (.slc base 0) [(base, .arr 0 τ' ys)] else none
            | _ => none else none
      | _, _, _ => none
    | _, _ => none
  | _ => none

/-- What an append appends. -/
def srcK (get : Nat → Option AObj) (v : AVal) (τ : Ty) (k : List τ.den → Option R) : Option R :=
  match v with
  | .slc r g => match get r with
    | some (.arr g' τ' xs) => bif Nat.beq g g' then (if h : τ' = τ then k (h ▸ xs) else none) else none
    | _ => none
  | .sub r g lo len _ => match get r with
    | some (.arr g' τ' xs) => bif Nat.beq g g' then (if h : τ' = τ then k (h ▸ ((xs.drop lo).take len)) else none) else none
    | _ => none
  | .dat q (.slice τ') xs => bif q || τ'.plain then (if h : τ' = τ then k (h ▸ xs) else none) else none
  | .nils => k []
  | _ => none

def actAppend (get : Nat → Option AObj) (base : Nat) (t tx : TypeId) (s v : AVal) (k : AVal → Ups → Option R) : Option R :=
  match undOf T t, undOf T tx with
  | .slice e, .slice _ => match T e with
    | some ed => bif Nat.ble 1 ed.bytes && ed.zero.flat && Nat.beq ed.zero.sh.size ed.size then (match s with
      | .slc r g => match get r with
        | some (.arr g' τ xs) => bif Nat.beq g g' && Nat.beq ed.size τ.size then
            srcK get v τ fun ys => if (xs.length + ys.length) * ed.bytes ≤ 140737488355328 then k (.slc r (g' + 1)) [(r, .arr (g' + 1) τ (xs ++ ys))] else none else none
        | _ => none
      | .nils => match tyEl T e, get base with
        | some τ, some .free => bif Nat.beq ed.size τ.size then
            srcK get v τ fun ys => if ys.length * ed.bytes ≤ 140737488355328 then k (.slc base 0) [(base, .arr 0 τ ys)] else none else none
        | _, _ => none
      | .sub r g lo len false => match get r with
        | some (.arr g' τ xs) => bif Nat.beq g g' && Nat.beq ed.size τ.size then
            srcK get v τ fun ys => if lo + len + ys.length ≤ xs.length then k (.sub r g lo (len + ys.length) false) [(r, .arr g' τ (xs.take (lo + len) ++ ys ++ xs.drop (lo + len + ys.length)))] else none else none
        | _ => none
      | .sub r g lo len true => match get r, get base with
        | some (.arr g' τ xs), some .free => bif Nat.beq g g' && Nat.beq ed.size τ.size then
            srcK get v τ fun ys => if (0 < ys.length ∨ len = 0) ∧ (len + ys.length) * ed.bytes ≤ 140737488355328 then k (.slc base 0) [(base, .arr 0 τ ((xs.drop lo).take len ++ ys))] else none else none
        | _, _ => none
      | _ => none) else none
    | none => none
  | _, _ => none
end defs

theorem replicate_get {α : Type} (l : List α) : ∀ (n i : Nat), ((List.replicate n l).flatten)[i]? = if i < n * l.length then l[i % l.length]? else none := by
  intro n
  induction n with
  | zero => intro i; simp
  | succ n ih =>
    intro i
    rw [List.replicate_succ, List.flatten_cons, List.getElem?_append]
    by_cases h : i < l.length
    · rw [if_pos h, if_pos (by rw [Nat.succ_mul]; omega), Nat.mod_eq_of_lt h]
    · rw [if_neg h, ih]
      have hm : i % l.length = (i - l.length) % l.length := by rw [Nat.mod_eq_sub_mod (by omega)]
      by_cases h2 : i - l.length < n * l.length
      · rw [if_pos h2, if_pos (by rw [Nat.succ_mul]; omega), hm]
      · rw [if_neg h2, if_neg (by rw [Nat.succ_mul]; omega)]

theorem made_zeros (z : Array Value) (n : Nat) : ((Array.range (n * z.size)).map (z[· % z.size]!)).toList = (List.replicate n z.toList).flatten := by
  apply List.ext_getElem?
  intro i
  rw [replicate_get]
  simp only [Array.toList_map, Array.toList_range, List.getElem?_map, Array.length_toList]
  by_cases h : i < n * z.size
  · rw [if_pos h, List.getElem?_range h]
    have hz : 0 < z.size := by
      rcases Nat.eq_zero_or_pos z.size with e | e
      · rw [e] at h; simp at h
      · exact e
    have hlt := Nat.mod_lt i hz
    simp [hlt]
  · rw [if_neg h, List.getElem?_eq_none (by simp; omega)]; rfl

section
variable {P : Program} {T : Tbl} {ρ : Operand → Option AVal} {get : Nat → Option AObj} {a : Act} {w : World} {x : Ctx} {R : Type}

theorem All2.replicate {α β : Type} {R : α → β → Prop} {u : α} {v : β} (h : R u v) : ∀ n, All2 R (List.replicate n u) (List.replicate n v)
  | 0 => .nil
  | n + 1 => by rw [List.replicate_succ, List.replicate_succ]; exact .cons h (All2.replicate h n)

theorem buildArr_sound (es : Nat) (sh : Sh) (m : Nat) (hes : es = sh.size) : ∀ (ps : List (Nat × AVal)) (qs : List (Nat × Value)) (acc : AVal) (cells : Array Value) (k : AVal → Option R) (z : R), PartsRel x ps qs → acc.C x cells.toList → acc.sh = .arr sh m →
    buildArrK es acc ps k = some z → ∃ acc' cells', Instr.fill (fun i => some (i * es, es)) cells qs = some cells' ∧ acc'.C x cells'.toList ∧ acc'.sh = .arr sh m ∧ k acc' = some z := by
  intro ps
  induction ps with
  | nil => intro qs acc cells k z hr hc hs hk; rw [hr.nil_inv]; unfold buildArrK at hk; exact ⟨acc, cells, rfl, hc, hs, hk⟩
  | cons p ps ih =>
    intro qs acc cells k z hr hc hacc hk
    obtain ⟨q, qs, rfl, ⟨hj, hv⟩, hr2⟩ := hr.cons_inv
    obtain ⟨j, u⟩ := p
    obtain ⟨j', v⟩ := q
    simp only at hj hv
    subst hj
    unfold buildArrK at hk
    obtain ⟨hc3, hk⟩ := cond_some hk
    rw [Bool.and_eq_true] at hc3
    have h3 := Nat.eq_of_beq_eq_true hc3.1
    obtain ⟨hC, _, _⟩ := V_inv hc3.2 hv
    obtain ⟨acc', hset, hk'⟩ := setK_inv _ _ _ _ _ hk
    obtain ⟨hsh', o', hat, pre, mid, post, e1, hp, hm, hC'⟩ := setK_sound _ acc u acc' _ hc hset _ hC
    rw [hacc] at hat
    simp only [Sh.at, Option.some.injEq, Prod.mk.injEq] at hat
    have hl := AVal.C.length _ _ hC
    have hfs2 := fill_step e1 hp hm
    obtain ⟨acc'', cells'', g1, g2, g3⟩ := ih qs acc' _ k z hr2 (by rw [hfs2]; exact hC') (hsh'.trans hacc) hk'
    refine ⟨acc'', cells'', ?_, g2, g3⟩
    have hsz : v.cells.size = u.sh.size := by rw [← hl]; simp
    have hlen : cells.size = pre.length + mid.length + post.length := by rw [← Array.length_toList, e1]; simp; omega
    have ho2 : o' = j * es := by rw [← hat.2, hes]; omega
    unfold Instr.fill
    simp only
    rw [if_neg (by
      simp only [ne_eq, Bool.or_eq_true, decide_eq_true_eq, not_or, Decidable.not_not, Nat.not_lt]
      refine ⟨by rw [hsz, h3], ?_⟩
      rw [hlen, hm, hp, ho2]; simp)]
    rw [← ho2]
    exact g1

/-- A new row of elements, at object base. -/
theorem slc_made {base : Nat} {τ : Ty} {ys : List τ.den} {cells : Array Value} {e : TypeId} (h0 : x.σ[base]? = some .free) (hh : x.h = fun b => w.heap[b]?) (M : Mem x) {css : List (List Value)} {post : List Value} (hcells : cells.toList = css.flatten ++ post) (A : All2 (τ.Rel x.h (x.F true)) ys css)
    {cap : Nat} (hcap : ys.length ≤ cap) (hroom : cap * τ.size ≤ cells.size) (n : Nat) :
    Goes x w (x.made w.heap.size (.cells cells e (0, 0)) base (.arr 0 τ ys)) (({ w with drawn := n }).alloc (.cells cells e (0, 0))) ∧
    (AVal.slc base 0).V (x.made w.heap.size (.cells cells e (0, 0)) base (.arr 0 τ ys)) (.slice (some ⟨w.heap.size, 0, none⟩) ys.length cap) := by
  have G := goes_made (w := { w with drawn := n }) (ob := .arr 0 τ ys) M hh h0 rfl (.cells cells e (0, 0)) (fun hs hk => .inr ⟨w.heap.size, 0, cells, e, css, if_pos rfl, if_pos rfl, A.mono fun _ _ h => h.congr (hs.t true), [], post, by simpa using hcells, rfl⟩)
  refine ⟨(Goes.drew M hh n).trans G, show (AVal.slc base 0).C _ _ from ⟨_, rfl, rfl, ?_⟩⟩
  unfold SlcRel
  rw [made_obj M h0 rfl rfl, if_pos rfl]
  refine ⟨Nat.le_refl _, fun _ => ?_⟩
  have : (x.made w.heap.size (.cells cells e (0, 0)) base (.arr 0 τ ys)).μ base = some ⟨w.heap.size, 0, none⟩ := if_pos rfl
  simp only [this]
  refine ⟨cap, rfl, hcap, ?_⟩
  intro c e' fr h
  have h2 := (show (if w.heap.size = w.heap.size then some (Obj.cells cells e (0, 0)) else x.h w.heap.size) = _ from h)
  rw [if_pos rfl] at h2; cases h2
  simpa using hroom

theorem V_of_C' {x : Ctx} {v v' : AVal} (ha : v'.agg = v.agg) (hC : ∀ cs, v.C x cs → v'.C x cs) {u : Value} (h : v.V x u) : v'.V x u := by
  unfold AVal.V at *
  rw [ha]
  by_cases hv : v.agg = true
  · rw [if_pos hv] at h ⊢; obtain ⟨c, e, h⟩ := h; exact ⟨c, e, hC _ h⟩
  · rw [if_neg hv] at h ⊢; exact hC _ h

theorem toDat_C : ∀ (t : Ty) (v : AVal) (d : t.den) (cs : List Value), toDat t v = some d → v.C x cs → t.Rel x.h (x.F true) d cs := by
  intro t
  have hdat : ∀ (t : Ty) (q : Bool) (t' : Ty) (d' : t'.den) (d : t.den) (cs : List Value), (bif q || t'.plain then (if h : t' = t then some (h ▸ d') else none) else none) = some d → (AVal.dat q t' d').C x cs → t.Rel x.h (x.F true) d cs := by
    intro t q t' d' d cs h hC
    obtain ⟨hq, h⟩ := cond_some h
    split at h
    · rename_i ht; subst ht; cases h
      rcases Bool.or_eq_true_iff.1 hq with hq | hq
      · subst hq; exact hC
      · exact Ty.Rel.ofPlain _ _ _ hq hC
    · cases h
  induction t with
  | slice t ih =>
    intro v d cs h hC
    cases v with
    | dat q t' d' => exact hdat _ q t' d' d cs h hC
    | nils =>
      obtain rfl : ([] : List t.den) = d := by simpa [toDat] using h
      obtain ⟨b, rfl⟩ := hC
      exact ⟨b, 0, 0, rfl, rfl, Nat.le_refl _, fun _ => rfl, fun h => absurd h (Nat.lt_irrefl _)⟩
    | _ => simp only [toDat] at h; cases h
  | pair ta tb iha ihb =>
    intro v d cs h hC
    cases v with
    | dat q t' d' => exact hdat _ q t' d' d cs h hC
    | pair u v =>
      simp only [toDat] at h
      split at h
      · rename_i d e h1 h2
        cases h
        obtain ⟨c1, c2, rfl, k1, k2⟩ := hC
        exact ⟨c1, c2, rfl, iha _ _ _ h1 k1, ihb _ _ _ h2 k2⟩
      · cases h
    | _ => simp only [toDat] at h; cases h
  | one ta iha =>
    intro v d cs h hC
    cases v with
    | dat q t' d' => exact hdat _ q t' d' d cs h hC
    | one u => exact iha _ _ _ (show toDat ta u = some d from h) hC
    | _ => simp only [toDat] at h; cases h
  | pref k =>
    intro v d cs h hC
    cases v with
    | dat q t' d' => exact hdat _ q t' d' d cs h hC
    | nilp =>
      obtain rfl : (none : Option Nat) = d := by simpa [toDat] using h
      exact hC
    | _ => simp only [toDat] at h; cases h
  | int kd | bool | str | unit | arr n ta ih =>
    intro v d cs h hC
    cases v with
    | dat q t' d' => exact hdat _ q t' d' d cs h hC
    | _ => simp only [toDat] at h; cases h

theorem toDat_agg : ∀ (t : Ty) (v : AVal) (d : t.den), toDat t v = some d → v.agg = t.agg := by
  intro t v d h
  have hdat : ∀ (q : Bool) (t' : Ty) (d' : t'.den), (bif q || t'.plain then (if h : t' = t then some (h ▸ d') else none) else none) = some d → t'.agg = t.agg := by
    intro q t' d' h
    obtain ⟨_, h⟩ := cond_some h
    split at h
    · rename_i ht; subst ht; rfl
    · cases h
  cases v with
  | dat q t' d' => exact hdat q t' d' (by cases t <;> exact h)
  | nils => cases t <;> simp only [toDat] at h <;> first | rfl | cases h
  | nilp => cases t <;> simp only [toDat] at h <;> first | rfl | cases h
  | pair a b => cases t <;> simp only [toDat] at h <;> first | rfl | cases h
  | one a => cases t <;> simp only [toDat] at h <;> first | rfl | cases h
  | _ => cases t <;> simp only [toDat] at h <;> cases h

theorem toDat_V {t : Ty} {v : AVal} {d : t.den} {u : Value} (h : toDat t v = some d) (hv : v.V x u) : (AVal.dat true t d).V x u :=
  V_of_C' (v := v) (v' := .dat true t d) (toDat_agg t v d h).symm (fun cs hc => toDat_C t v d cs h hc) hv

theorem datParts_rel {τ : Ty} : ∀ (ps ps' : List (Nat × AVal)) (qs : List (Nat × Value)), datParts τ ps = some ps' → PartsRel x ps qs → PartsRel x ps' qs := by
  intro ps
  induction ps with
  | nil => intro ps' qs h hr; simp only [datParts, Option.some.injEq] at h; subst h; exact hr
  | cons p ps ih =>
    intro ps' qs h hr
    obtain ⟨j, u⟩ := p
    simp only [datParts] at h
    split at h
    · rename_i d m h1 h2
      cases h
      obtain ⟨q, qs, rfl, hq, hr⟩ := All2.cons_inv hr
      exact All2.cons ⟨hq.1, toDat_V h1 hq.2⟩ (ih m qs h2 hr)
    · cases h

theorem actBuildSlice_ok (H : Meets P T ρ get a w x) {o : Oper} {t : TypeId} {len base : Nat} {parts : Array (Nat × Operand)} (ho : o.op = .buildSlice t len parts) {ps : List (Nat × AVal)} (hps : parts.toList.mapM (fun p => (ρ p.2).map fun v => (p.1, v)) = some ps)
    {k : AVal → Ups → Option R} {z : R} (hk : actBuildSlice T get base t len ps k = some z) : ∃ u ups, k u ups = some z ∧ ActOk P o a w x u ups := by
  have hpr0 := parts_eval H.val _ _ hps
  unfold actBuildSlice at hk
  split at hk
  case h_2 => cases hk
  rename_i e hu
  have hb := undOf_ok H.tbl hu (by simp)
  split at hk
  case h_2 => cases hk
  rename_i ed τ hed hτ
  split at hk
  case h_2 => cases hk
  rename_i z0 dps hz0 hdp hg
  have hpr := datParts_rel _ _ _ hdp hpr0
  obtain ⟨hc, hk⟩ := cond_some hk
  rw [Bool.and_eq_true, Bool.and_eq_true, Bool.and_eq_true] at hc
  obtain ⟨hc, hzf⟩ := hc
  have hsz := Nat.eq_of_beq_eq_true hc.1.1
  have hag : ed.und.agg = τ.agg := beq_iff_eq.1 hc.1.2
  obtain ⟨zv, hz, hzv⟩ := (H.tbl e ed hed).zeroValue (w := w)
  have hzv := hzv x
  obtain ⟨hC, _, _⟩ := V_inv hzf hzv
  have hrel : τ.Rel x.h (x.F true) z0 zv.cells.toList := toDat_C τ _ _ _ hz0 hC
  have hzl : zv.cells.size = τ.size := by rw [← Array.length_toList]; exact Ty.Rel.length _ _ _ hrel
  have hcells : ((Array.range (len * ed.size)).map (zv.cells[· % zv.cells.size]!)).toList = (List.replicate len zv.cells.toList).flatten := by
    rw [hsz, ← hzl]; exact made_zeros _ _
  have hacc : (AVal.dat true (.arr len τ) (List.replicate len z0)).C x ((Array.range (len * ed.size)).map (zv.cells[· % zv.cells.size]!)).toList := by
    rw [hcells]; exact ⟨by simp, _, rfl, All2.replicate hrel len⟩
  obtain ⟨acc', cells', g1, g2, g3, g4⟩ := buildArr_sound ed.size τ.sh len (by rw [hsz, Ty.sh_size]) dps _ _ _ _ z hpr hacc rfl hk
  split at g4
  case h_2 => cases g4
  rename_i n τ' ys
  obtain ⟨hc2, g4⟩ := cond_some g4
  rw [Bool.and_eq_true] at hc2
  have hn := Nat.eq_of_beq_eq_true hc2.1
  have ht' := Nat.eq_of_beq_eq_true hc2.2
  obtain ⟨hyl, css, hcs, A⟩ := g2
  have hcl : cells'.size = len * ed.size := by rw [← Array.length_toList, hcs, flatten_length A.lengths, ← A.1, hyl, hn, ht']
  obtain ⟨G, V⟩ := slc_made (e := e) (cells := cells') (cap := len) (H.obj base _ hg) H.h H.mem (css := css) (post := []) (by simpa using hcs) A (by omega) (by rw [ht', hcl]; exact Nat.le_refl _) w.drawn
  refine ⟨_, _, g4, fun next Q hnext => ?_⟩
  unfold Oper.wp
  have hmap : (parts.map fun p => (p.1, a.eval p.2)).toList = parts.toList.map fun p => (p.1, a.eval p.2) := by simp
  have hle : ¬ (len * ed.size > 2 ^ 24) := by have := Nat.le_of_ble_eq_true hc.2; omega
  have hrun : (execOp a.eval o).run P w = .ok (.value (.slice (some ⟨w.heap.size, 0, none⟩) len len)) (w.alloc (.cells cells' e (0, 0))) := by
    simp only [execOp, ho, Instr.buildSlice, Sem.run_bind, run_underlying (show P.underlying t = _ from hb), Result.andThen_ok, (H.tbl _ _ hed).sizeOf]
    rw [if_neg hle, hmap]
    have e0 : ∀ (f : Nat → Value), Array.map f (Array.range 0) = #[] := fun f => by simp [Array.range]
    by_cases h0 : len * ed.size = 0
    · have g1' : Instr.fill (fun i => some (i * ed.size, ed.size)) #[] (parts.toList.map fun p => (p.1, a.eval p.2)) = some cells' := by rw [← g1, h0, e0]
      simp only [h0, if_true, Sem.run_bind, Sem.run_pure, Result.andThen_ok, e0, g1']
      rfl
    · simp only [h0, if_false, Sem.run_bind, Sem.run_pure, Result.andThen_ok, hz, g1]
      rfl
  rw [hrun, Oper.upon_value]
  have hyy : ys.length = len := by rw [hyl, hn]
  rw [hyy] at V
  exact hnext _ _ _ G rfl V
end
end Go.Am

/- The abstract machine: appends do what the machine says. -/
namespace Go.Am

section
variable {P : Program} {T : Tbl} {ρ : Operand → Option AVal} {get : Nat → Option AObj} {a : Act} {w : World} {x : Ctx} {R : Type}

theorem all2_one {h : Heap} {S : Fz} {t : Ty} {xs : List t.den} {css : List (List Value)} (A : All2 (t.Rel h S) xs css) : ∀ v ∈ css.flatten, v.oneCell' = true := by
  intro v hv
  obtain ⟨c, hc, hv⟩ := List.mem_flatten.1 hv
  obtain ⟨i, hi, rfl⟩ := List.getElem_of_mem hc
  exact Ty.Rel.oneCell t (xs[i]'(by rw [A.1]; exact hi)) _ (A.2 i _ _ (List.getElem?_eq_getElem _) (List.getElem?_eq_getElem _)) v hv

theorem src_empty {size : Nat} {tx e' : TypeId} (hk : P.underlying tx = some (.slice e')) (base : Option Addr) (c : Nat) : Src P size tx (.slice base 0 c) 0 [] w := by
  cases base with
  | none => exact Src.ofNil w hk c
  | some b => exact Src.ofSlice w hk b 0 c [] (by simp) (fun j u h => by simp at h) (fun u h => by cases h)

theorem src_cells {size : Nat} {tx e' : TypeId} (hk : P.underlying tx = some (.slice e')) {b o n cap : Nat} {c : Array Value} {e : TypeId} {fr : Nat × Nat} (hb : w.heap[b]? = some (.cells c e fr)) {news : List Value}
    (hn : ∀ (j : Nat) v, news[j]? = some v → c[o + j]? = some v) (hl : news.length = n * size) (h1 : ∀ u ∈ news, u.oneCell' = true) : Src P size tx (.slice (some ⟨b, o, none⟩) n cap) n news w :=
  Src.ofSlice w hk ⟨b, o, none⟩ n cap news hl (fun j u hj => by rw [add_mk, cell_of_heap hb]; exact hn j u hj) h1

/-- What an append appends, in memory. -/
theorem srcK_ok (H : Meets P T ρ get a w x) {vo : Operand} {v : AVal} (hv : v.V x (a.eval vo)) {tx e' : TypeId} (hk : P.underlying tx = some (.slice e')) {τ : Ty} {k : List τ.den → Option R} {z : R} (h : srcK get v τ k = some z) :
    ∃ ys css, k ys = some z ∧ All2 (τ.Rel x.h (x.F true)) ys css ∧ Src P τ.size tx (a.eval vo) ys.length css.flatten w := by
  unfold srcK at h
  split at h
  · rename_i r g
    split at h
    case h_2 => cases h
    rename_i g' τ' xs hg
    obtain ⟨hgg, h⟩ := cond_some h
    split at h
    case isFalse => cases h
    rename_i ht; subst ht
    obtain ⟨c0, hc0, _, hs⟩ := (show (AVal.slc r g).C x [a.eval vo] from hv)
    simp only [List.cons.injEq, and_true] at hc0
    have hobj := obj_of_get H.mem (H.obj r _ hg)
    unfold SlcRel at hs
    rw [hobj] at hs
    have hs := hs.2 (Nat.eq_of_beq_eq_true hgg)
    have hrel := H.mem.objs r
    rw [hobj] at hrel
    rcases hrel with ⟨h1, h2⟩ | ⟨b, o, c, e, css, h1, h2, h3, pre, post, h4, h5⟩
    · subst h2
      simp only [h1] at hs
      obtain ⟨b, hb⟩ := hs
      refine ⟨[], [], h, All2.nil, ?_⟩
      rw [hc0, hb]; exact src_empty hk b 0
    · simp only [h1] at hs
      obtain ⟨cap, e1, e2, e3⟩ := hs
      refine ⟨xs, css, h, h3, ?_⟩
      rw [hc0, e1]
      refine src_cells hk (heap_at H h2) (fun j v hj => ?_) (by rw [flatten_length h3.lengths, h3.1]) (all2_one h3)
      have := all2_drop_get h4 j hj
      rw [h5] at this; exact this
  · rename_i r g lo len ex
    split at h
    case h_2 => cases h
    rename_i g' τ' xs hg
    obtain ⟨hgg, h⟩ := cond_some h
    split at h
    case isFalse => cases h
    rename_i ht; subst ht
    obtain ⟨c0, hc0, _, hs⟩ := (show (AVal.sub r g lo len ex).C x [a.eval vo] from hv)
    simp only [List.cons.injEq, and_true] at hc0
    have hobj := obj_of_get H.mem (H.obj r _ hg)
    unfold SubRel at hs
    rw [hobj] at hs
    obtain ⟨hll, base, cap, e1, e2, _, _, e3, e4⟩ := hs.2 (Nat.eq_of_beq_eq_true hgg)
    have hlen : ((xs.drop lo).take len).length = len := by simp; omega
    rcases Nat.eq_zero_or_pos len with h0 | hpos
    · subst h0
      refine ⟨_, [], h, ?_, ?_⟩
      · simp; exact All2.nil
      · rw [hc0, e1]; simpa using src_empty hk base cap
    · have hrel := H.mem.objs r
      rw [hobj] at hrel
      rcases hrel with ⟨h1, h2⟩ | ⟨b, o, c, e, css, h1, h2, h3, pre, post, h4, h5⟩
      · subst h2; simp at hll; omega
      · cases hbase : base with
        | none => have := e3 hbase; omega
        | some ba =>
          obtain ⟨a0, ha0, hba, _⟩ := e4 ba hbase (by omega)
          rw [h1] at ha0; cases ha0
          have hA : All2 (τ'.Rel x.h (x.F true)) ((xs.drop lo).take len) ((css.drop lo).take len) := by
            refine ⟨by simp [h3.1], fun i u v hu hv => ?_⟩
            rw [List.getElem?_take] at hu hv
            split at hu
            · rename_i hi
              rw [if_pos hi] at hv
              rw [List.getElem?_drop] at hu hv
              exact h3.2 _ _ _ hu hv
            · cases hu
          refine ⟨_, (css.drop lo).take len, h, hA, ?_⟩
          have hsplit : css.flatten = (css.take lo).flatten ++ ((css.drop lo).take len).flatten ++ ((css.drop lo).drop len).flatten := by
            conv => lhs; rw [← List.take_append_drop lo css, ← List.take_append_drop len (css.drop lo)]
            simp [List.flatten_append, List.append_assoc]
          have hpl : (css.take lo).flatten.length = lo * τ'.size := by
            rw [flatten_length (n := τ'.size) (fun d hd => h3.lengths d (List.mem_of_mem_take hd)), List.length_take, ← h3.1, Nat.min_eq_left (by omega)]
          rw [hc0, e1, hbase, hba, hlen]
          rw [add_mk]
          refine src_cells hk (heap_at H h2) (fun j v hj => ?_) (by rw [flatten_length hA.lengths, ← hA.1, hlen]) (all2_one hA)
          have := all2_drop_get (c := c) (pre := pre ++ (css.take lo).flatten) (mid := ((css.drop lo).take len).flatten) (post := ((css.drop lo).drop len).flatten ++ post) (by rw [h4, hsplit]; simp [List.append_assoc]) j hj
          rw [List.length_append, h5, hpl] at this; exact this
  · rename_i q τ' xs
    obtain ⟨hq, h⟩ := cond_some h
    split at h
    case isFalse => cases h
    rename_i ht; subst ht
    have hv : (Ty.slice τ').Rel x.h (x.F q) xs [a.eval vo] := hv
    have hv : ∃ base len cap, a.eval vo = .slice base len cap ∧ len = xs.length ∧ len ≤ cap ∧ (base = none → cap = 0) ∧ (0 < len → ∃ b o, base = some ⟨b, o, none⟩ ∧ ∃ css, Holds x.h b o css.flatten ∧ All2 (Ty.Rel x.h (x.F true) τ') xs css) := by
      obtain ⟨base, len, cap, hu, hl, hc, hnil, hb⟩ := hv
      simp only [List.cons.injEq, and_true] at hu
      refine ⟨base, len, cap, hu, hl, hc, hnil, fun hp => ?_⟩
      obtain ⟨b, o, h1, _, css, h2, A⟩ := hb hp
      refine ⟨b, o, h1, css, h2, ?_⟩
      rcases Bool.or_eq_true_iff.1 hq with hq | hq
      · subst hq; exact A
      · exact A.mono fun _ _ h => Ty.Rel.ofPlain _ _ _ hq h
    obtain ⟨base, len, cap, hu, hl, hc, hnil, hb⟩ := hv
    rcases Nat.eq_zero_or_pos len with h0 | hpos
    · subst h0
      have : xs = [] := List.length_eq_zero_iff.1 hl.symm
      subst this
      refine ⟨[], [], h, All2.nil, ?_⟩
      rw [hu]; exact src_empty hk base cap
    · obtain ⟨b, o, h1, css, ⟨c, e, fr, h3, h4⟩, A⟩ := hb hpos
      refine ⟨xs, css, h, A, ?_⟩
      rw [hu, h1, hl]
      exact src_cells hk (heap_at H h3) h4 (by rw [flatten_length A.lengths, A.1]) (all2_one A)
  · refine ⟨[], [], h, All2.nil, ?_⟩
    obtain ⟨b, hb⟩ := (show AVal.nils.C x [a.eval vo] from hv)
    simp only [List.cons.injEq, and_true] at hb
    rw [hb]; exact src_empty hk b 0
  · cases h

/-- There is room: the row is written. -/
theorem run_append_row (t tx ty e : TypeId) (i : TypeInfo) (ht : P.underlying t = some (.slice e)) (hi : P.info? e = some i) {b off sLen sCap : Nat} {v : Value} {n : Nat} {news : List Value} (hs : Src P i.size tx v n news w)
    (hroom : sLen + n ≤ sCap) {c : Array Value} {et : TypeId} (hb : w.heap[b]? = some (.cells c et (0, 0))) {pre mid post : List Value} (hc : c.toList = pre ++ mid ++ post) (hp : pre.length = off + sLen * i.size) (hm : mid.length = news.length) :
    (Builtin.append_ #[t, tx] ty #[.slice (some ⟨b, off, none⟩) sLen sCap, v]).run P w = .ok (.slice (some ⟨b, off, none⟩) (sLen + n) sCap) (w.setRow b (pre ++ news ++ post).toArray) := by
  have hlen : c.size = pre.length + mid.length + post.length := by rw [← Array.length_toList, hc]; simp; omega
  have hst := run_storeCells_at (P := P) b (off + sLen * i.size) et news 0 c w hb (by rw [hlen]; omega) hs.one
  have e1 : List.take (off + sLen * i.size + 0) c.toList = pre := by rw [hc, ← hp]; simp
  have e2 : List.drop (off + sLen * i.size + 0 + news.length) c.toList = post := by
    rw [hc, ← hp, ← hm, List.append_assoc, show pre.length + 0 + mid.length = pre.length + mid.length by omega, ← List.drop_drop, List.drop_left, List.drop_left]
  rw [e1, e2] at hst
  have hst' : (storeCells ⟨b, off + sLen * i.size, none⟩ news).run P w = .ok () (w.setRow b (pre ++ news ++ post).toArray) := hst
  rcases hs.kind with ⟨e', hk⟩ | hk <;> simp [Builtin.append_, run_underlying ht, run_underlying hk, sizeOf, typeInfo, hi, hs.len, hroom, hs.cells, Addr.add_lit, hst']

theorem run_append_call {o : Oper} {so vo : Operand} {ats : Array TypeId} (ho : o.op = .call { callee := .builtin .append, args := #[so, vo], argTypes := ats }) :
    (execOp a.eval o).run P w = ((Builtin.append_ ats o.type #[a.eval so, a.eval vo]).run P w).andThen fun v w' => .ok (.value v) w' := by
  simp only [execOp, ho, resolve, invoke, builtin, Sem.run_bind, Sem.run_pure, Result.andThen_ok, List.map_toArray, List.map_cons, List.map_nil]

/-- The state behind a change of row r: it lies in block blk now, from off on. -/
def Ctx.moved (x : Ctx) (blk off : Nat) (o : Obj) (r : Nat) (ob : AObj) : Ctx :=
  { h := fun b => if b = blk then some o else x.h b, S := x.S, μ := fun r' => if r' = r then some ⟨blk, off, none⟩ else x.μ r', σ := x.σ.set r ob, at_ := x.at_, pl := x.pl }

/-- A row's old references are let go, its block is written, or it lies in a new one. -/
theorem goes_moved {w' : World} (M : Mem x) (hh : x.h = fun b => w.heap[b]?) {r g' : Nat} {τ : Ty} {xs zs : List τ.den} (h0 : x.σ[r]? = some (.arr g' τ xs)) {blk off : Nat} {c' : Array Value} {e : TypeId}
    (hblk : (∃ o1, x.μ r = some ⟨blk, o1, none⟩) ∨ blk = w.heap.size) (hw : ∀ b, w'.heap[b]? = if b = blk then some (.cells c' e (0, 0)) else w.heap[b]?) (os : w'.os = w.os) (tape : w'.tape = w.tape) (output : w'.output = w.output) (size : w.heap.size ≤ w'.heap.size)
    {css : List (List Value)} {pre post : List Value} (hc : c'.toList = pre ++ css.flatten ++ post) (hp : pre.length = off) (A : All2 (τ.Rel x.h (x.F true)) zs css) :
    Goes x w (x.moved blk off (.cells c' e (0, 0)) r (.arr (g' + 1) τ zs)) w' ∧
    ∀ cap, zs.length ≤ cap → off + cap * τ.size ≤ c'.size → (AVal.slc r (g' + 1)).V (x.moved blk off (.cells c' e (0, 0)) r (.arr (g' + 1) τ zs)) (.slice (some ⟨blk, off, none⟩) zs.length cap) := by
  have hob : ∀ r', (x.moved blk off (.cells c' e (0, 0)) r (.arr (g' + 1) τ zs)).obj r' = if r' = r then .arr (g' + 1) τ zs else x.obj r' := fun r' => obj_set (M.low h0) h0 rfl rfl
  have hμ : (x.moved blk off (.cells c' e (0, 0)) r (.arr (g' + 1) τ zs)).μ r = some ⟨blk, off, none⟩ := if_pos rfl
  have hobj := obj_of_get M h0
  have hfresh : blk = w.heap.size → (x.h blk).isSome = false := fun e => by rw [hh, e]; simp
  have U0 : Upd0 x (x.moved blk off (.cells c' e (0, 0)) r (.arr (g' + 1) τ zs)) r := {
    S := rfl
    at_ := rfl
    pl := rfl
    low := M.low h0
    len := List.length_set
    obj := fun r' hr => by rw [hob, if_neg hr]
    μ := fun r' hr => if_neg hr
    h := fun b hs hne => if_neg fun e => by
      subst e
      rcases hblk with ⟨o1, h1⟩ | h1
      · exact hne _ (by rw [hobj]; rfl) h1 rfl
      · rw [hfresh h1] at hs; cases hs
    keep := by
      refine ⟨fun g p c k => ?_, fun g c k => ?_, fun g lo len ex c k => ?_, fun c k => ?_⟩
      · unfold PtrRel at k ⊢; rw [hobj] at k; rw [hob, if_pos rfl]; exact ⟨Nat.le_succ_of_le k.1, fun e => absurd k.1 (by omega)⟩
      · unfold SlcRel at k ⊢; rw [hobj] at k; rw [hob, if_pos rfl]; exact ⟨Nat.le_succ_of_le k.1, fun e => absurd k.1 (by omega)⟩
      · unfold SubRel at k ⊢; rw [hobj] at k; rw [hob, if_pos rfl]; exact ⟨Nat.le_succ_of_le k.1, fun e => absurd k.1 (by omega)⟩
      · unfold MapRel; rw [hob, if_pos rfl]; trivial
    blk := fun a' _ ha' => by
      rw [hμ] at ha'; cases ha'
      rcases hblk with ⟨o1, h1⟩ | h1
      · exact .inl ⟨_, by rw [hobj]; rfl, h1, rfl⟩
      · exact .inr (hfresh h1) }
  have U : Upd x (x.moved blk off (.cells c' e (0, 0)) r (.arr (g' + 1) τ zs)) r := ⟨U0, by
    rw [hob, if_pos rfl]
    exact .inr ⟨blk, off, c', e, css, hμ, if_pos rfl, A.mono fun _ _ h => h.congr ((U0.hS M).t true), pre, post, hc, hp⟩⟩
  refine ⟨U.goes M hh ?_ os tape output size, fun cap h1 h2 => show (AVal.slc r (g' + 1)).C _ _ from ⟨_, rfl, rfl, ?_⟩⟩
  · funext b
    rw [hw]
    show (if b = blk then _ else x.h b) = _
    rw [hh]
  · unfold SlcRel
    rw [hob, if_pos rfl]
    refine ⟨Nat.le_refl _, fun _ => ?_⟩
    simp only [hμ]
    refine ⟨cap, rfl, h1, ?_⟩
    intro c2 e2 fr2 h
    have h := (show (if blk = blk then some (Obj.cells c' e (0, 0)) else x.h blk) = _ from h)
    rw [if_pos rfl] at h; cases h
    exact h2

/-- A row that lies nowhere, and in which there is nothing. -/
theorem goes_bare (M : Mem x) (hh : x.h = fun b => w.heap[b]?) {r g' : Nat} {τ : Ty} {xs : List τ.den} (h0 : x.σ[r]? = some (.arr g' τ xs)) (h1 : x.μ r = none) :
    Goes x w { x with σ := x.σ.set r (.arr (g' + 1) τ []) } w ∧ ∀ b, (AVal.slc r (g' + 1)).V { x with σ := x.σ.set r (.arr (g' + 1) τ []) } (.slice b 0 0) := by
  have hob : ∀ r', ({ x with σ := x.σ.set r (.arr (g' + 1) τ []) } : Ctx).obj r' = if r' = r then .arr (g' + 1) τ [] else x.obj r' := fun r' => obj_set (M.low h0) h0 rfl rfl
  have hobj := obj_of_get M h0
  have U0 : Upd0 x { x with σ := x.σ.set r (.arr (g' + 1) τ []) } r := {
    S := rfl
    at_ := rfl
    pl := rfl
    low := M.low h0
    len := List.length_set
    obj := fun r' hr => by rw [hob, if_neg hr]
    μ := fun r' hr => rfl
    h := fun b hs hne => rfl
    keep := by
      refine ⟨fun g p c k => ?_, fun g c k => ?_, fun g lo len ex c k => ?_, fun c k => ?_⟩
      · unfold PtrRel at k ⊢; rw [hobj] at k; rw [hob, if_pos rfl]; exact ⟨Nat.le_succ_of_le k.1, fun e => absurd k.1 (by omega)⟩
      · unfold SlcRel at k ⊢; rw [hobj] at k; rw [hob, if_pos rfl]; exact ⟨Nat.le_succ_of_le k.1, fun e => absurd k.1 (by omega)⟩
      · unfold SubRel at k ⊢; rw [hobj] at k; rw [hob, if_pos rfl]; exact ⟨Nat.le_succ_of_le k.1, fun e => absurd k.1 (by omega)⟩
      · unfold MapRel; rw [hob, if_pos rfl]; trivial
    blk := fun a' _ ha' => by rw [show ({ x with σ := x.σ.set r (.arr (g' + 1) τ []) } : Ctx).μ r = none from h1] at ha'; cases ha' }
  have U : Upd x { x with σ := x.σ.set r (.arr (g' + 1) τ []) } r := ⟨U0, by rw [hob, if_pos rfl]; exact .inl ⟨h1, rfl⟩⟩
  refine ⟨U.goes M hh hh rfl rfl rfl (Nat.le_refl _), fun b => show (AVal.slc r (g' + 1)).C _ _ from ⟨_, rfl, rfl, ?_⟩⟩
  unfold SlcRel
  rw [hob, if_pos rfl]
  refine ⟨Nat.le_refl _, fun _ => ?_⟩
  simp only [h1]
  exact ⟨b, rfl⟩

/-- A free object becomes an empty row that lies nowhere. -/
theorem goes_empty (M : Mem x) (hh : x.h = fun b => w.heap[b]?) {r : Nat} (τ : Ty) (h0 : x.σ[r]? = some .free) :
    Goes x w { x with μ := fun r' => if r' = r then none else x.μ r', σ := x.σ.set r (.arr 0 τ []) } w ∧ ∀ b, (AVal.slc r 0).V { x with μ := fun r' => if r' = r then none else x.μ r', σ := x.σ.set r (.arr 0 τ []) } (.slice b 0 0) := by
  have hob : ∀ r', ({ x with μ := fun r' => if r' = r then none else x.μ r', σ := x.σ.set r (.arr 0 τ []) } : Ctx).obj r' = if r' = r then .arr 0 τ [] else x.obj r' := fun r' => obj_set (M.low h0) h0 rfl rfl
  have hobj := obj_of_get M h0
  have hμ : ({ x with μ := fun r' => if r' = r then none else x.μ r', σ := x.σ.set r (.arr 0 τ []) } : Ctx).μ r = none := if_pos rfl
  have U0 : Upd0 x { x with μ := fun r' => if r' = r then none else x.μ r', σ := x.σ.set r (.arr 0 τ []) } r := {
    S := rfl
    at_ := rfl
    pl := rfl
    low := M.low h0
    len := List.length_set
    obj := fun r' hr => by rw [hob, if_neg hr]
    μ := fun r' hr => if_neg hr
    h := fun b hs hne => rfl
    keep := .ofFree hobj
    blk := fun a' _ ha' => by rw [hμ] at ha'; cases ha' }
  have U : Upd x { x with μ := fun r' => if r' = r then none else x.μ r', σ := x.σ.set r (.arr 0 τ []) } r := ⟨U0, by rw [hob, if_pos rfl]; exact .inl ⟨hμ, rfl⟩⟩
  refine ⟨U.goes M hh hh rfl rfl rfl (Nat.le_refl _), fun b => show (AVal.slc r 0).C _ _ from ⟨_, rfl, rfl, ?_⟩⟩
  unfold SlcRel
  rw [hob, if_pos rfl]
  refine ⟨Nat.le_refl _, fun _ => ?_⟩
  simp only [if_true]
  exact ⟨b, rfl⟩

theorem zero_cells (z : Array Value) (n : Nat) : (Builtin.zeroCells z n).size = n * z.size := by simp [Builtin.zeroCells]

theorem grown_ge (w : World) (need old : Nat) (e : TypeId) : need ≤ grownCap w need old e := by
  unfold grownCap Question.cut; exact Nat.le_add_right _ _

theorem info_parts {t : TypeId} {d : TD} (h : TdOk P t d) : ∃ i z, P.info? t = some i ∧ i.size = d.size ∧ i.bytes = d.bytes ∧ i.zero = some z ∧ ∀ x : Ctx, d.zero.V x z := by
  obtain ⟨i, h1, h2, h3, z, h4, h5⟩ := h.info
  exact ⟨i, z, h1, h2, h3, h4, h5⟩

theorem heap_alloc_drew (o : Obj) : ∀ b, (w.drew.alloc o).heap[b]? = if b = w.heap.size then some o else w.heap[b]? := by
  intro b
  exact congrFun (heap_alloc w.drew o) b

/-- An append that grows: what lies in the new block. -/
theorem run_append_new (H : Meets P T ρ get a w x) {t tx ty e : TypeId} {ed : TD} (hed : T e = some ed) (ht : P.underlying t = some (.slice e)) {τ : Ty} (hsz : ed.size = τ.size) (hzf : ed.zero.flat = true) (hzs : ed.zero.sh.size = ed.size)
    {base : Option Addr} {sLen sCap : Nat} {xs : List τ.den} {css : List (List Value)} (A : All2 (τ.Rel x.h (x.F true)) xs css) (hlen : xs.length = sLen)
    (hold : (Builtin.firstCells τ.size sLen (.slice base sLen sCap)).run P w.drew = .ok css.flatten.toArray w.drew) {v : Value} {ys : List τ.den} {cys : List (List Value)} (B : All2 (τ.Rel x.h (x.F true)) ys cys) (hs : Src P τ.size tx v ys.length cys.flatten w)
    (hg : sCap < sLen + ys.length) (hb : (sLen + ys.length) * ed.bytes ≤ 140737488355328) (hb1 : 1 ≤ ed.bytes) :
    ∃ (cells : Array Value) (post : List Value) (cap : Nat), (Builtin.append_ #[t, tx] ty #[.slice base sLen sCap, v]).run P w = .ok (.slice (some ⟨w.heap.size, 0, none⟩) (xs ++ ys).length cap) (w.drew.alloc (.cells cells e (0, 0))) ∧
      cells.toList = [] ++ (css ++ cys).flatten ++ post ∧ (xs ++ ys).length ≤ cap ∧ 0 + cap * τ.size ≤ cells.size := by
  have hok := H.tbl e ed hed
  obtain ⟨i, z, hi, his, hib, hz, hzv⟩ := info_parts hok
  have h63 : ((sLen + ys.length : Nat) : Int) ≤ 9223372036854775807 := by
    have : sLen + ys.length ≤ (sLen + ys.length) * ed.bytes := Nat.le_mul_of_pos_right _ hb1
    omega
  have hsz' : i.size = τ.size := by rw [his, hsz]
  have hrun := run_append_grow_src (P := P) w t tx ty e i z ht hi hz base sLen sCap css.flatten (by rw [hsz']; exact hold) v ys.length cys.flatten (by rw [hsz']; exact hs) hg h63 (growslice_fits hg (by rw [hib]; exact hb))
  have hzc : z.cells.size = τ.size := by
    obtain ⟨hC, _, _⟩ := V_inv hzf (hzv x)
    rw [← Array.length_toList, AVal.C.length _ _ hC, hzs, hsz]
  have hge := grown_ge w (sLen + ys.length) sCap e
  have hal : (xs ++ ys).length = sLen + ys.length := by rw [List.length_append, hlen]
  refine ⟨_, (Builtin.zeroCells z.cells (grownCap w (sLen + ys.length) sCap e - (sLen + ys.length))).toList, _, by rw [hal]; exact hrun, by simp, by rw [hal]; exact hge, ?_⟩
  rw [Array.size_append, zero_cells, hzc, List.size_toArray, List.length_append, flatten_length A.lengths, flatten_length B.lengths, ← A.1, ← B.1, hlen, ← Nat.add_mul, ← Nat.add_mul, Nat.zero_add]
  exact Nat.mul_le_mul_right _ (by omega)

/-- A row is written over; it is as long as it was, and lies where it lay. -/
theorem goes_over {w' : World} (M : Mem x) (hh : x.h = fun b => w.heap[b]?) {r g' : Nat} {τ : Ty} {xs zs : List τ.den} (h0 : x.σ[r]? = some (.arr g' τ xs)) {blk off : Nat} {c c' : Array Value} {e : TypeId}
    (h1 : x.μ r = some ⟨blk, off, none⟩) (h2 : x.h blk = some (.cells c e (0, 0))) (hcs : c'.size = c.size) (hl : zs.length = xs.length) (hw : w' = w.setRow blk c')
    {css : List (List Value)} {pre post : List Value} (hc : c'.toList = pre ++ css.flatten ++ post) (hp : pre.length = off) (A : All2 (τ.Rel x.h (x.F true)) zs css) :
    Goes x w (x.wrote blk (.cells c' e (0, 0)) r (.arr g' τ zs)) w' := by
  have hobj := obj_of_get M h0
  have hk : Keeps x (x.wrote blk (.cells c' e (0, 0)) r (.arr g' τ zs)) r := by
    refine ⟨fun g p c hp => ?_, fun g c1 hp => ?_, fun g lo len ex c1 hp => ?_, fun c1 hp => ?_⟩
    · unfold PtrRel at hp ⊢; rw [wrote_obj M h0 rfl rfl, if_pos rfl]; rw [hobj] at hp; exact hp
    · unfold SlcRel at hp ⊢
      rw [wrote_obj M h0 rfl rfl, if_pos rfl]; rw [hobj] at hp
      refine ⟨hp.1, fun hgg' => ?_⟩
      have hp := hp.2 hgg'
      simp only [Ctx.wrote, h1] at hp ⊢
      obtain ⟨cap, e1, e2, e3⟩ := hp
      refine ⟨cap, by rw [hl]; exact e1, by rw [hl]; exact e2, ?_⟩
      intro c2 e2' fr2 h
      have h := (show (if blk = blk then some (Obj.cells c' e (0, 0)) else x.h blk) = _ from h)
      rw [if_pos rfl] at h; cases h
      have := e3 c e (0, 0) h2
      rw [hcs]; exact this
    · unfold SubRel at hp ⊢
      rw [wrote_obj M h0 rfl rfl, if_pos rfl]; rw [hobj] at hp
      refine ⟨hp.1, fun hgg' => ?_⟩
      obtain ⟨k1, base, cap, k2, k3, k4, k5, k6, k7⟩ := hp.2 hgg'
      refine ⟨by rw [hl]; exact k1, base, cap, k2, k3, k4, by rw [hl]; exact k5, k6, fun b hb hpc => ?_⟩
      obtain ⟨a1, ha1, f1, hroom⟩ := k7 b hb hpc
      refine ⟨a1, ha1, f1, ?_⟩
      rw [h1] at ha1; cases ha1
      intro c2 e2' fr2 h
      have h := (show (if blk = blk then some (Obj.cells c' e (0, 0)) else x.h blk) = _ from h)
      rw [if_pos rfl] at h; cases h
      have := hroom c e (0, 0) h2
      rw [hcs]; exact this
    · unfold MapRel; rw [wrote_obj M h0 rfl rfl, if_pos rfl]; trivial
  have U0 := upd0_wrote (x := x) M h0 rfl rfl rfl h1 hk
  have U : Upd x (x.wrote blk (.cells c' e (0, 0)) r (.arr g' τ zs)) r := ⟨U0, by
    rw [wrote_obj M h0 rfl rfl, if_pos rfl]
    exact .inr ⟨blk, off, c', e, css, h1, if_pos rfl, A.mono fun _ _ h => h.congr ((U0.hS M).t true), pre, post, hc, hp⟩⟩
  subst hw
  refine U.goes M hh ?_ rfl rfl rfl (by rw [setRow_size]; exact Nat.le_refl _)
  funext b
  rw [setRow_heap_eq (show w.heap[blk]? = _ from by have := hh ▸ h2; exact this)]
  show (if b = blk then _ else x.h b) = _
  rw [hh]

theorem take_take_all2 {h : Heap} {S : Fz} {τ : Ty} {xs : List τ.den} {css : List (List Value)} (A : All2 (τ.Rel h S) xs css) (n : Nat) : All2 (τ.Rel h S) (xs.take n) (css.take n) :=
  ⟨by simp [A.1], fun i u v hu hv => by
    rw [List.getElem?_take] at hu hv
    split at hu
    · rename_i hi; rw [if_pos hi] at hv; exact A.2 _ _ _ hu hv
    · cases hu⟩

theorem drop_all2 {h : Heap} {S : Fz} {τ : Ty} {xs : List τ.den} {css : List (List Value)} (A : All2 (τ.Rel h S) xs css) (n : Nat) : All2 (τ.Rel h S) (xs.drop n) (css.drop n) :=
  ⟨by simp [A.1], fun i u v hu hv => by rw [List.getElem?_drop] at hu hv; exact A.2 _ _ _ hu hv⟩

theorem actAppend_ok (H : Meets P T ρ get a w x) {o : Oper} {base : Nat} {t tx : TypeId} {so vo : Operand} (ho : o.op = .call { callee := .builtin .append, args := #[so, vo], argTypes := #[t, tx] })
    {s v : AVal} (hsv : s.V x (a.eval so)) (hv : v.V x (a.eval vo)) {k : AVal → Ups → Option R} {z : R} (hk : actAppend T get base t tx s v k = some z) : ∃ u ups, k u ups = some z ∧ ActOk P o a w x u ups := by
  unfold actAppend at hk
  split at hk
  case h_2 => cases hk
  rename_i e e' hut hux
  have ht : P.underlying t = some (.slice e) := undOf_ok H.tbl hut (by simp)
  have htx : P.underlying tx = some (.slice e') := undOf_ok H.tbl hux (by simp)
  split at hk
  case h_2 => cases hk
  rename_i ed hed
  obtain ⟨hcond, hk⟩ := cond_some hk
  simp only [Bool.and_eq_true] at hcond
  have hb1 := Nat.le_of_ble_eq_true hcond.1.1
  have hzf := hcond.1.2
  have hzs := Nat.eq_of_beq_eq_true hcond.2
  have hok := H.tbl e ed hed
  obtain ⟨i, zz, hi, his, hib, hz, hzv⟩ := info_parts hok
  -- how a run is used
  have fin : ∀ (val : Value) (w' : World) (u : AVal) (ups : Ups) (x' : Ctx), (Builtin.append_ #[t, tx] o.type #[a.eval so, a.eval vo]).run P w = .ok val w' → Goes x w x' w' → x'.σ = applyUps x.σ ups → u.V x' val → ActOk P o a w x u ups := by
    intro val w' u ups x' hrun G hσ hV next Q hnext
    unfold Oper.wp
    rw [run_append_call ho, hrun]
    simp only [Result.andThen_ok, Oper.upon_value]
    exact hnext _ _ _ G hσ hV
  split at hk
  · -- a slice of the call's own
    rename_i r g hkk
    clear hkk
    split at hk
    case h_2 => cases hk
    rename_i g' τ xs hg
    obtain ⟨hc, hk⟩ := cond_some hk
    rw [Bool.and_eq_true] at hc
    have hgg := Nat.eq_of_beq_eq_true hc.1
    have hsz := Nat.eq_of_beq_eq_true hc.2
    obtain ⟨ys, cys, hk, B, hsrc⟩ := srcK_ok H hv htx hk
    split at hk
    case isFalse => cases hk
    rename_i hfit
    refine ⟨_, _, hk, ?_⟩
    have h0 := H.obj r _ hg
    have hobj := obj_of_get H.mem h0
    have hsz' : i.size = τ.size := by rw [his, hsz]
    obtain ⟨c0, hc0, _, hr⟩ := (show (AVal.slc r g).C x [a.eval so] from hsv)
    simp only [List.cons.injEq, and_true] at hc0
    unfold SlcRel at hr
    rw [hobj] at hr
    have hr := hr.2 hgg
    have hrel := H.mem.objs r
    rw [hobj] at hrel
    rcases hrel with ⟨h1, h2⟩ | ⟨blk, off, c, et, css, h1, h2, A, pre, post, h4, h5⟩
    · subst h2
      simp only [h1] at hr
      obtain ⟨b, hb⟩ := hr
      rw [hb] at hc0
      rcases Nat.eq_zero_or_pos ys.length with hn | hn
      · have hy : ys = [] := List.length_eq_zero_iff.1 hn
        subst hy
        have hcy : cys = [] := B.nil_inv
        subst hcy
        obtain ⟨G, V⟩ := goes_bare (g' := g') H.mem H.h h0 h1
        refine fin _ _ _ _ _ ?_ G (by rw [applyUps_one]; simp) (V b)
        rw [hc0]
        exact run_append_nothing w t tx o.type e i ht hi b 0 0 (Nat.le_refl _) _ (by rw [hsz']; exact hsrc)
      · obtain ⟨cells, post, cap, hrun, e1, e2, e3⟩ := run_append_new H (ty := o.type) hed ht (τ := τ) hsz hzf hzs (base := b) (sLen := 0) (sCap := 0) (xs := []) All2.nil rfl
          (by cases b with
            | none => exact run_firstCells_none _ _ _ _ _
            | some b => exact run_firstCells_some _ _ _ _ _ _ [] (by simp) (fun j v h => by simp at h)) B hsrc (by omega) (by simpa using hfit) hb1
        obtain ⟨G, V⟩ := goes_moved (w' := w.drew.alloc (.cells cells e (0, 0))) (zs := [] ++ ys) H.mem H.h h0 (blk := w.heap.size) (off := 0) (c' := cells) (e := e) (.inr rfl) (heap_alloc_drew _) rfl rfl rfl (by show _ ≤ (w.heap.push _).size; simp) e1 rfl (All2.nil.append B)
        exact fin _ _ _ _ _ (by rw [hc0]; exact hrun) G applyUps_one (V cap e2 e3)
    · simp only [h1] at hr
      obtain ⟨cap, e1, e2, e3⟩ := hr
      rw [e1] at hc0
      have hroom := e3 c et (0, 0) h2
      have hAl := flatten_length A.lengths
      have hBl := flatten_length B.lengths
      rw [← A.1] at hAl
      rw [← B.1] at hBl
      rcases Nat.lt_or_ge cap (xs.length + ys.length) with hg1 | hg1
      · obtain ⟨cells, post', cap', hrun, f1, f2, f3⟩ := run_append_new H (ty := o.type) hed ht (τ := τ) hsz hzf hzs (base := some ⟨blk, off, none⟩) (sLen := xs.length) (sCap := cap) A rfl
          (run_firstCells_some _ _ _ _ _ _ _ (by rw [hAl]) (fun j v hj => by
            rw [add_mk]
            show w.cell? _ = _
            rw [cell_of_heap (heap_at H h2), ← h5]; exact all2_drop_get h4 j hj)) B hsrc hg1 hfit hb1
        obtain ⟨G, V⟩ := goes_moved (w' := w.drew.alloc (.cells cells e (0, 0))) (zs := xs ++ ys) H.mem H.h h0 (blk := w.heap.size) (off := 0) (c' := cells) (e := e) (.inr rfl) (heap_alloc_drew _) rfl rfl rfl (by show _ ≤ (w.heap.push _).size; simp) f1 rfl (A.append B)
        exact fin _ _ _ _ _ (by rw [hc0]; exact hrun) G applyUps_one (V cap' f2 f3)
      · have hpost : cys.flatten.length ≤ post.length := by
          have e4 : c.size = pre.length + css.flatten.length + post.length := by rw [← Array.length_toList, h4]; simp; omega
          have e5 : (xs.length + ys.length) * τ.size ≤ cap * τ.size := Nat.mul_le_mul_right _ hg1
          rw [Nat.add_mul] at e5
          simp only at hroom
          omega
        have hrun := run_append_row (P := P) t tx o.type e i ht hi (sLen := xs.length) (sCap := cap) (n := ys.length) (by rw [hsz']; exact hsrc) hg1 (heap_at H h2) (pre := pre ++ css.flatten) (mid := post.take cys.flatten.length) (post := post.drop cys.flatten.length)
          (by rw [h4, List.append_assoc _ (post.take _), List.take_append_drop]) (off := off) (by rw [List.length_append, h5, hAl, hsz']) (by rw [List.length_take]; omega)
        have hcs : (pre ++ css.flatten ++ cys.flatten ++ post.drop cys.flatten.length).toArray.size = c.size := by
          rw [← Array.length_toList (xs := c), h4]; simp only [List.size_toArray, List.length_append, List.length_drop]; omega
        obtain ⟨G, V⟩ := goes_moved (w' := w.setRow blk (pre ++ css.flatten ++ cys.flatten ++ post.drop cys.flatten.length).toArray) (zs := xs ++ ys) H.mem H.h h0 (blk := blk) (off := off) (e := et) (.inl ⟨off, h1⟩) (setRow_heap_eq (heap_at H h2) _) rfl rfl rfl (by rw [setRow_size]; exact Nat.le_refl _)
          (css := css ++ cys) (pre := pre) (post := post.drop cys.flatten.length) (by simp) h5 (A.append B)
        have V := V cap (by simpa using hg1) (by rw [hcs]; exact hroom)
        rw [List.length_append] at V
        exact fin _ _ _ _ _ (by rw [hc0]; exact hrun) G applyUps_one V
  · -- a slice that is nil
    split at hk
    case h_2 => cases hk
    rename_i τ hτ hg
    obtain ⟨hc, hk⟩ := cond_some hk
    have hsz := Nat.eq_of_beq_eq_true hc
    obtain ⟨ys, cys, hk, B, hsrc⟩ := srcK_ok H hv htx hk
    split at hk
    case isFalse => cases hk
    rename_i hfit
    refine ⟨_, _, hk, ?_⟩
    have h0 := H.obj base _ hg
    have hsz' : i.size = τ.size := by rw [his, hsz]
    obtain ⟨b, hb⟩ := (show AVal.nils.C x [a.eval so] from hsv)
    simp only [List.cons.injEq, and_true] at hb
    rcases Nat.eq_zero_or_pos ys.length with hn | hn
    · have hy : ys = [] := List.length_eq_zero_iff.1 hn
      subst hy
      have hcy : cys = [] := B.nil_inv
      subst hcy
      obtain ⟨G, V⟩ := goes_empty H.mem H.h τ h0
      refine fin _ _ _ _ _ ?_ G applyUps_one (V b)
      rw [hb]
      exact run_append_nothing w t tx o.type e i ht hi b 0 0 (Nat.le_refl _) _ (by rw [hsz']; exact hsrc)
    · obtain ⟨cells, post, cap, hrun, e1, e2, e3⟩ := run_append_new H (ty := o.type) hed ht (τ := τ) hsz hzf hzs (base := b) (sLen := 0) (sCap := 0) (xs := []) All2.nil rfl
        (by cases b with
          | none => exact run_firstCells_none _ _ _ _ _
          | some b => exact run_firstCells_some _ _ _ _ _ _ [] (by simp) (fun j v h => by simp at h)) B hsrc (by omega) (by simpa using hfit) hb1
      obtain ⟨G, V⟩ := slc_made (e := e) (ys := [] ++ ys) (cells := cells) h0 H.h H.mem (css := cys) (post := post) (by simpa using e1) B e2 (by simpa using e3) (w.drawn + 1)
      exact fin _ _ _ _ _ (by rw [hb]; exact hrun) G applyUps_one V
  · -- a part, in place
    rename_i r g lo len hkk
    clear hkk
    split at hk
    case h_2 => cases hk
    rename_i g' τ xs hg
    obtain ⟨hc, hk⟩ := cond_some hk
    rw [Bool.and_eq_true] at hc
    have hgg := Nat.eq_of_beq_eq_true hc.1
    have hsz := Nat.eq_of_beq_eq_true hc.2
    obtain ⟨ys, cys, hk, B, hsrc⟩ := srcK_ok H hv htx hk
    split at hk
    case isFalse => cases hk
    rename_i hfit
    refine ⟨_, _, hk, ?_⟩
    have h0 := H.obj r _ hg
    have hobj := obj_of_get H.mem h0
    have hsz' : i.size = τ.size := by rw [his, hsz]
    obtain ⟨c0, hc0, _, hr⟩ := (show (AVal.sub r g lo len false).C x [a.eval so] from hsv)
    simp only [List.cons.injEq, and_true] at hc0
    have hr0 := hr
    unfold SubRel at hr
    rw [hobj] at hr
    obtain ⟨hle, sb, cap, e1, e2, _, e4, e5, e6⟩ := hr.2 hgg
    have e4 := e4 rfl
    rw [e1] at hc0
    have hrel := H.mem.objs r
    rw [hobj] at hrel
    have hxl : (xs.take (lo + len) ++ ys ++ xs.drop (lo + len + ys.length)).length = xs.length := by
      simp only [List.length_append, List.length_take, List.length_drop]; omega
    have hV : ∀ x' : Ctx, x'.obj r = .arr g' τ (xs.take (lo + len) ++ ys ++ xs.drop (lo + len + ys.length)) → x'.μ r = x.μ r → (∀ a n, x.μ r = some a → Roomy x.h a n → Roomy x'.h a n) → (AVal.sub r g lo (len + ys.length) false).V x' (.slice sb (len + ys.length) cap) := by
      intro x' ho' hμ' hR
      refine (show (AVal.sub r g lo (len + ys.length) false).C x' _ from ⟨_, rfl, rfl, ?_⟩)
      unfold SubRel
      rw [ho', hμ']
      exact ⟨hr.1, fun _ => ⟨by rw [hxl]; omega, sb, cap, rfl, by omega, (fun h => by cases h), fun _ => by rw [hxl]; exact e4, e5, fun b hb hp => by obtain ⟨a1, f1, f2, f3⟩ := e6 b hb hp; exact ⟨a1, f1, f2, hR a1 _ f1 f3⟩⟩⟩
    rcases Nat.eq_zero_or_pos ys.length with hn | hn
    · have hy : ys = [] := List.length_eq_zero_iff.1 hn
      subst hy
      have hcy : cys = [] := B.nil_inv
      subst hcy
      have hsame : xs.take (lo + len) ++ [] ++ xs.drop (lo + len + ([] : List τ.den).length) = xs := by simp
      refine fin (.slice sb len cap) w _ _ x ?_ (.refl H.mem H.h) ?_ ?_
      · rw [hc0]
        exact run_append_nothing w t tx o.type e i ht hi sb len cap e2 _ (by rw [hsz']; exact hsrc)
      · rw [applyUps_one, hsame]
        obtain ⟨hl, hlt⟩ := List.getElem?_eq_some_iff.1 h0
        rw [← hlt, List.set_getElem_self]
      · have := hV x (by rw [hsame]; exact hobj) rfl (fun _ _ _ h => h)
        simpa using this
    · rcases hrel with ⟨h1, h2⟩ | ⟨blk, off, c, et, css, h1, h2, A, pre, post, h4, h5⟩
      · subst h2; simp only [List.length_nil] at hfit; omega
      · cases sb with
        | none => have := e5 rfl; omega
        | some b0 =>
          obtain ⟨a0, f1, f3, _⟩ := e6 b0 rfl (by omega)
          rw [h1] at f1; cases f1
          rw [add_mk] at f3; subst f3
          have hAl := flatten_length A.lengths
          have hBl := flatten_length B.lengths
          rw [← A.1] at hAl
          rw [← B.1] at hBl
          have hcl := A.1
          have hsplit : css.flatten = (css.take (lo + len)).flatten ++ ((css.drop (lo + len)).take ys.length).flatten ++ (css.drop (lo + len + ys.length)).flatten := by
            conv => lhs; rw [← List.take_append_drop (lo + len) css, ← List.take_append_drop ys.length (css.drop (lo + len))]
            simp [List.flatten_append, List.append_assoc, List.drop_drop]
          have hpl : (css.take (lo + len)).flatten.length = (lo + len) * τ.size := by
            rw [flatten_length (n := τ.size) (fun d hd => A.lengths d (List.mem_of_mem_take hd)), List.length_take, Nat.min_eq_left (by omega)]
          have hml : ((css.drop (lo + len)).take ys.length).flatten.length = ys.length * τ.size := by
            rw [flatten_length (n := τ.size) (fun d hd => A.lengths d (List.mem_of_mem_drop (List.mem_of_mem_take hd))), List.length_take, List.length_drop, Nat.min_eq_left (by omega)]
          have hrun := run_append_row (P := P) t tx o.type e i ht hi (sLen := len) (sCap := cap) (n := ys.length) (by rw [hsz']; exact hsrc) (by omega) (heap_at H h2) (pre := pre ++ (css.take (lo + len)).flatten) (mid := ((css.drop (lo + len)).take ys.length).flatten) (post := (css.drop (lo + len + ys.length)).flatten ++ post)
            (by rw [h4, hsplit]; simp [List.append_assoc]) (off := off + lo * τ.size) (by rw [List.length_append, h5, hpl, hsz', Nat.add_mul]; omega) (by rw [hml, hBl])
          have G := goes_over (w' := w.setRow blk (pre ++ (css.take (lo + len)).flatten ++ cys.flatten ++ ((css.drop (lo + len + ys.length)).flatten ++ post)).toArray) (zs := xs.take (lo + len) ++ ys ++ xs.drop (lo + len + ys.length)) H.mem H.h h0 (e := et) h1 h2
            (c' := (pre ++ (css.take (lo + len)).flatten ++ cys.flatten ++ ((css.drop (lo + len + ys.length)).flatten ++ post)).toArray)
            (by
              have e7 : c.size = pre.length + css.flatten.length + post.length := by rw [← Array.length_toList, h4]; simp; omega
              have e8 := congrArg List.length hsplit
              simp only [List.length_append] at e8
              rw [e7]; simp only [List.size_toArray, List.length_append]; omega) hxl rfl
            (css := css.take (lo + len) ++ cys ++ css.drop (lo + len + ys.length)) (pre := pre) (post := post) (by simp) h5 (((take_take_all2 A _).append B).append (drop_all2 A _))
          refine fin _ _ _ _ _ (by rw [hc0]; exact hrun) G applyUps_one (hV _ (by rw [wrote_obj H.mem h0 rfl rfl, if_pos rfl]) rfl fun a1 n f1 f2 => ?_)
          rw [h1] at f1; cases f1
          intro c2 e2' fr2 h
          have h := (show (if blk = blk then some (Obj.cells _ et (0, 0)) else x.h blk) = _ from h)
          rw [if_pos rfl] at h; cases h
          have h9 : off + n ≤ c.size := f2 c et (0, 0) h2
          have e7 : c.size = pre.length + css.flatten.length + post.length := by rw [← Array.length_toList, h4]; simp; omega
          have e8 := congrArg List.length hsplit
          simp only [List.length_append] at e8
          show off + n ≤ _
          simp only [List.size_toArray, List.length_append]
          omega
  · -- a part whose capacity is its length
    rename_i r g lo len hkk
    clear hkk
    split at hk
    case h_2 => cases hk
    rename_i g' τ xs hg hgb
    obtain ⟨hc, hk⟩ := cond_some hk
    rw [Bool.and_eq_true] at hc
    have hgg := Nat.eq_of_beq_eq_true hc.1
    have hsz := Nat.eq_of_beq_eq_true hc.2
    obtain ⟨ys, cys, hk, B, hsrc⟩ := srcK_ok H hv htx hk
    split at hk
    case isFalse => cases hk
    rename_i hfit
    refine ⟨_, _, hk, ?_⟩
    have hb0 := H.obj base _ hgb
    have hsz' : i.size = τ.size := by rw [his, hsz]
    obtain ⟨ys0, css0, hk0, A0, hsrc0⟩ := srcK_ok (R := List τ.den) (k := some) (z := (xs.drop lo).take len) H hsv ht (by simp [srcK, hg, hgg])
    cases hk0
    obtain ⟨c0, hc0, _, hr⟩ := (show (AVal.sub r g lo len true).C x [a.eval so] from hsv)
    simp only [List.cons.injEq, and_true] at hc0
    unfold SubRel at hr
    rw [obj_of_get H.mem (H.obj r _ hg)] at hr
    obtain ⟨hle, sb, cap, e1, e2, e3, _, e5, e6⟩ := hr.2 hgg
    have e3 := e3 rfl
    subst e3
    rw [e1] at hc0
    have hl0 : ((xs.drop lo).take cap).length = cap := by simp; omega
    rw [hl0, hc0] at hsrc0
    rcases Nat.eq_zero_or_pos ys.length with hn | hn
    · have hy : ys = [] := List.length_eq_zero_iff.1 hn
      subst hy
      have hcy : cys = [] := B.nil_inv
      subst hcy
      have hcap : cap = 0 := by rcases hfit.1 with h | h; exact absurd h (by simp); exact h
      subst hcap
      have hnil : (xs.drop lo).take 0 ++ ([] : List τ.den) = [] := by simp
      rw [hnil]
      obtain ⟨G, V⟩ := goes_empty H.mem H.h τ hb0
      refine fin _ _ _ _ _ ?_ G applyUps_one (V sb)
      rw [hc0]
      exact run_append_nothing w t tx o.type e i ht hi sb 0 0 (Nat.le_refl _) _ (by rw [hsz']; exact hsrc)
    obtain ⟨cells, post, cap', hrun, f1, f2, f3⟩ := run_append_new H (ty := o.type) hed ht (τ := τ) hsz hzf hzs (base := sb) (sLen := cap) (sCap := cap) A0 hl0 hsrc0.cellsD B hsrc (by omega) hfit.2 hb1
    obtain ⟨G, V⟩ := slc_made (e := e) (ys := (xs.drop lo).take cap ++ ys) (cells := cells) hb0 H.h H.mem (css := css0 ++ cys) (post := post) (by simpa using f1) (A0.append B) f2 (by simpa using f3) (w.drawn + 1)
    exact fin _ _ _ _ _ (by rw [hc0]; exact hrun) G applyUps_one V
  · cases hk
end
end Go.Am

/- The abstract machine: parts of slices; slices that are made. -/
namespace Go.Am

section defs
variable {R : Type} (T : Tbl)

/-- A slice's bounds: from, to, and how far at most. -/
def boundsK (len top : Nat) (l h m : Option AVal) (k : Nat → Nat → Option Nat → Option R) : Option R :=
  match m with
  | none => boundK h len top fun hh => boundK l 0 hh fun ll => k ll hh none
  | some m => match h with
    | none => none
    | some h => boundK (some m) 0 top fun mm => boundK (some h) 0 mm fun hh => boundK l 0 hh fun ll => k ll hh (some mm)

/-- mode 1: the slice itself is cut; else a part of it is told. -/
def actSlice (get : Nat → Option AObj) (mode : Nat) (t : TypeId) (v : AVal) (l h m : Option AVal) (k : AVal → Ups → Option R) : Option R :=
  match undOf T t with
  | .slice e => match T e with
    | some ed => match v with
      | .slc r g => match get r with
        | some (.arr g' τ xs) => bif Nat.beq g g' && Nat.beq ed.size τ.size then
            boundsK xs.length xs.length l h m fun ll hh mo => match mo with
              | none => bif Nat.beq mode 1 then k (.slc r (g' + 1)) [(r, .arr (g' + 1) τ ((xs.take hh).drop ll))] else k (.sub r g ll (hh - ll) false) []
              | some mm => bif Nat.beq mode 2 then (if mm = xs.length then k (.sub r g ll (hh - ll) false) [] else none) else if hh = mm then k (.sub r g ll (hh - ll) true) [] else none
            else none
        | _ => none
      | .sub r g lo len false => match get r with
        | some (.arr g' τ xs) => bif Nat.beq g g' && Nat.beq ed.size τ.size then
            boundsK len (xs.length - lo) l h m fun ll hh mo => match mo with
              | none => bif Nat.beq mode 1 then none else k (.sub r g (lo + ll) (hh - ll) false) []
              | some mm => if hh = mm then k (.sub r g (lo + ll) (hh - ll) true) [] else none
            else none
        | _ => none
      | .dat own (.slice τ) xs => bif Nat.beq ed.size τ.size then
          boundsK xs.length xs.length l h m fun ll hh mo => match mo with
            | none => k (.dat own (.slice τ) ((xs.take hh).drop ll)) []
            | some mm => if mm = ll then k .nils [] else none
          else none
      | .nils => boundsK 0 0 l h m fun _ _ _ => k .nils []
      | _ => none
    | none => none
  | .str => match m with
    | none => actSliceStr T t v l h fun u => k u []
    | some _ => none
  | _ => none

def actMakeSlice (get : Nat → Option AObj) (base : Nat) (t : TypeId) (n c : AVal) (k : AVal → Ups → Option R) : Option R :=
  match undOf T t with
  | .slice e => match T e, tyEl T e with
    | some ed, some τ => bif Nat.ble 1 ed.bytes && ed.zero.flat && Nat.beq ed.zero.sh.size ed.size && Nat.beq ed.size τ.size && (ed.zero.agg == τ.agg) then
        (match toDat τ ed.zero, get base, n, c with
          | some z, some .free, .dat _ (.int _) n, .dat _ (.int _) c => if 0 ≤ n ∧ n ≤ c ∧ c * ed.bytes ≤ 140737488355328 then k (.slc base 0) [(base, .arr 0 τ (List.replicate n.toNat z))] else none
          | _, _, _, _ => none) else none
    | _, _ => none
  | _ => none
end defs

section
variable {P : Program} {T : Tbl} {ρ : Operand → Option AVal} {get : Nat → Option AObj} {a : Act} {w : World} {x : Ctx} {R : Type}

theorem bound_nat {i : Int} {y : Nat} (h1 : 0 ≤ i) (h2 : i ≤ (y : Int)) : i.toNat ≤ y := by omega
theorem bound_up {i : Int} {y y' : Nat} (h1 : 0 ≤ i) (h2 : i ≤ (y : Int)) (h : y ≤ y') : 0 ≤ i ∧ i ≤ (y' : Int) := by omega

theorem boundK_le {o : Option Operand} {v : Option AVal} (hv : optV x a o v) {d y : Nat} {k : Nat → Option R} {z : R} (hk : boundK v d y k = some z) :
    ∃ n, k n = some z ∧ (n = d ∨ n ≤ y) ∧ ((o = none ∧ n = d) ∨ ∃ o', o = some o' ∧ n ≤ y ∧ ∀ (code : BoundsCode) (y' : Nat), y ≤ y' → (Instr.sliceBound (a.eval o') y' code).run P w = .ok n w) := by
  unfold boundK at hk
  split at hk
  · cases o with
    | none => exact ⟨d, hk, .inl rfl, .inl ⟨rfl, rfl⟩⟩
    | some o => cases hv
  · rename_i p kd i
    cases o with
    | none => cases hv
    | some o =>
      split at hk
      · rename_i hi
        obtain ⟨hi1, hi2⟩ := hi
        refine ⟨i.toNat, hk, .inr (bound_nat hi1 hi2), .inr ⟨o, rfl, bound_nat hi1 hi2, fun code y' hy => ?_⟩⟩
        have hu := V_int.1 hv
        have hi' : 0 ≤ i ∧ i ≤ (y' : Int) := bound_up hi1 hi2 hy
        simp only [Instr.sliceBound, hu, asIntOf, Sem.run_bind, Sem.run_pure, Result.andThen_ok, if_pos hi']
      · cases hk
  · cases hk

theorem boundsK_ok {lo hi mx : Option Operand} {l h m : Option AVal} (hl : optV x a lo l) (hh : optV x a hi h) (hm : optV x a mx m) {len top cap : Nat} (hlen : len ≤ top) (htop : top ≤ cap) {k : Nat → Nat → Option Nat → Option R} {z : R}
    (hk : boundsK len top l h m k = some z) : ∃ ll hh mo, k ll hh mo = some z ∧ ll ≤ hh ∧ hh ≤ top ∧ (∀ mm, mo = some mm → hh ≤ mm ∧ mm ≤ top) ∧
      (Instr.sliceBounds true len cap (lo.map a.eval) (hi.map a.eval) (mx.map a.eval)).run P w = .ok (ll, hh, mo.getD cap) w := by
  unfold boundsK at hk
  cases m with
  | none =>
    cases mx with
    | some _ => cases hm
    | none =>
      simp only at hk
      obtain ⟨hn, hk1, b1, r1⟩ := boundK_le (P := P) (w := w) hh hk
      obtain ⟨ln, hk2, b2, r2⟩ := boundK_le (P := P) (w := w) hl hk1
      refine ⟨ln, hn, none, hk2, by omega, by omega, (fun mm h => by cases h), ?_⟩
      rcases r1 with ⟨rfl, rfl⟩ | ⟨hi', rfl, c1, r1⟩ <;> rcases r2 with ⟨rfl, rfl⟩ | ⟨lo', rfl, c2, r2⟩
      · simp [Instr.sliceBounds]
      · have e2 := r2 .sliceB _ (Nat.le_refl _)
        simp [Instr.sliceBounds, e2]
      · have e1 := r1 .sliceAcap _ htop
        simp [Instr.sliceBounds, e1]
      · have e1 := r1 .sliceAcap _ htop
        have e2 := r2 .sliceB _ (Nat.le_refl _)
        simp [Instr.sliceBounds, e1, e2]
  | some m =>
    cases mx with
    | none => cases hm
    | some mx =>
      cases h with
      | none => cases hk
      | some h =>
        cases hi with
        | none => cases hh
        | some hi =>
          simp only at hk
          obtain ⟨mm, hk0, b0, r0⟩ := boundK_le (P := P) (w := w) (o := some mx) (v := some m) hm hk
          obtain ⟨hn, hk1, b1, r1⟩ := boundK_le (P := P) (w := w) (o := some hi) (v := some h) hh hk0
          obtain ⟨ln, hk2, b2, r2⟩ := boundK_le (P := P) (w := w) hl hk1
          rcases r0 with ⟨h0, _⟩ | ⟨mx', h0, c0, r0⟩
          · cases h0
          cases h0
          rcases r1 with ⟨h0, _⟩ | ⟨hi', h0, c1, r1⟩
          · cases h0
          cases h0
          refine ⟨ln, hn, some mm, hk2, by omega, by omega, (fun mm' h => by cases h; exact ⟨c1, c0⟩), ?_⟩
          have e0 := r0 .slice3Acap _ htop
          have e1 := r1 .slice3B _ (Nat.le_refl _)
          rcases r2 with ⟨rfl, rfl⟩ | ⟨lo', rfl, c2, r2⟩
          · simp [Instr.sliceBounds, e0, e1]
          · have e2 := r2 .slice3C _ (Nat.le_refl _)
            simp [Instr.sliceBounds, e0, e1, e2]

theorem run_slice_of {t e : TypeId} (ht : P.underlying t = some (.slice e)) {size : Nat} (hs : (sizeOf e).run P w = .ok size w) {o : Oper} {xo : Operand} {lo hi mx : Option Operand} (ho : o.op = .slice t xo lo hi mx)
    {base : Option Addr} {len cap ll hh mm : Nat} (hv : a.eval xo = .slice base len cap) (hbd : (Instr.sliceBounds true len cap (lo.map a.eval) (hi.map a.eval) (mx.map a.eval)).run P w = .ok (ll, hh, mm) w) :
    (execOp a.eval o).run P w = .ok (.value (.slice (if mm = ll then base else base.map (·.add (ll * size))) (hh - ll) (mm - ll))) w := by
  have h1 : (underlying t).run P w = .ok (.slice e) w := run_underlying ht w
  simp [execOp, ho, hv, Instr.sliceAt, Instr.slice, h1, hbd, hs]

theorem addr_add_zero (b : Addr) : b.add 0 = b := by simp [Addr.add]

theorem actSlice_ok (H : Meets P T ρ get a w x) {o : Oper} {mode : Nat} {t : TypeId} {xo : Operand} {lo hi mx : Option Operand} (ho : o.op = .slice t xo lo hi mx)
    {v : AVal} {l h m : Option AVal} (hv : v.V x (a.eval xo)) (hl : optV x a lo l) (hh : optV x a hi h) (hm : optV x a mx m) {k : AVal → Ups → Option R} {z : R} (hk : actSlice T get mode t v l h m k = some z) : ∃ u ups, k u ups = some z ∧ ActOk P o a w x u ups := by
  unfold actSlice at hk
  split at hk
  · rename_i e hu
    have ht : P.underlying t = some (.slice e) := undOf_ok H.tbl hu (by simp)
    split at hk
    case h_2 => cases hk
    rename_i ed hed
    have hsz := (H.tbl e ed hed).sizeOf (w := w)
    have run := fun (base : Option Addr) (len cap ll hh mm : Nat) (hv : a.eval xo = .slice base len cap) (hb : (Instr.sliceBounds true len cap (lo.map a.eval) (hi.map a.eval) (mx.map a.eval)).run P w = .ok (ll, hh, mm) w) =>
      run_slice_of ht hsz ho hv hb
    split at hk
    · -- a slice of the call's own
      rename_i r g
      split at hk
      case h_2 => cases hk
      rename_i g' τ xs hg
      obtain ⟨hc, hk⟩ := cond_some hk
      rw [Bool.and_eq_true] at hc
      have hgg := Nat.eq_of_beq_eq_true hc.1
      have hes := Nat.eq_of_beq_eq_true hc.2
      have h0 := H.obj r _ hg
      have hobj := obj_of_get H.mem h0
      obtain ⟨c0, hc0, _, hr⟩ := (show (AVal.slc r g).C x [a.eval xo] from hv)
      simp only [List.cons.injEq, and_true] at hc0
      unfold SlcRel at hr
      rw [hobj] at hr
      obtain ⟨hgle, hr⟩ := hr
      have hr := hr hgg
      have hrel := H.mem.objs r
      rw [hobj] at hrel
      -- the value, however it lies
      obtain ⟨base, cap, e1, e2, e3, e4⟩ : ∃ base cap, a.eval xo = .slice base xs.length cap ∧ xs.length ≤ cap ∧ (base = none → cap = 0) ∧ (∀ b, base = some b → 0 < cap → x.μ r = some b ∧ Roomy x.h b (cap * τ.size)) := by
        rcases hrel with ⟨h1, h2⟩ | ⟨blk, off, c, et, css, h1, _⟩
        · simp only [h1] at hr
          obtain ⟨b, hb⟩ := hr
          exact ⟨b, 0, by rw [hc0, hb, h2]; rfl, by rw [h2]; exact Nat.le_refl _, fun _ => rfl, fun _ _ h => absurd h (Nat.lt_irrefl _)⟩
        · simp only [h1] at hr
          obtain ⟨cap, f1, f2, f3⟩ := hr
          exact ⟨_, cap, by rw [hc0, f1], f2, (fun h => by cases h), fun b h _ => by cases h; exact ⟨h1, f3⟩⟩
      obtain ⟨ll, hh', mo, hk2, g1, g2, g3, g4⟩ := boundsK_ok (P := P) (w := w) hl hh hm (Nat.le_refl _) e2 hk
      have hrun := run _ _ _ _ _ _ e1 g4
      have sub : ∀ (ex : Bool), (ex = true → mo = some hh') → (ex = false → mo = none ∨ mo = some xs.length) → ActOk P o a w x (.sub r g ll (hh' - ll) ex) [] := by
        intro ex x1 x2
        refine ActOk.value H.mem H.h hrun (show (AVal.sub r g ll (hh' - ll) ex).C x _ from ⟨_, rfl, rfl, ?_⟩)
        unfold SubRel
        rw [hobj]
        have hcap : hh' ≤ mo.getD cap := by
          cases mo with
          | none => simp only [Option.getD_none]; omega
          | some mm => simp only [Option.getD_some]; exact (g3 mm rfl).1
        have hcap2 : mo.getD cap ≤ cap := by
          cases mo with
          | none => simp only [Option.getD_none]; omega
          | some mm => simp only [Option.getD_some]; have := (g3 mm rfl).2; omega
        refine ⟨hgle, fun _ => ⟨by omega, _, _, rfl, by omega, fun h => by rw [x1 h]; rfl, fun h => by rcases x2 h with e | e <;> rw [e] <;> simp only [Option.getD_none, Option.getD_some] <;> omega, fun h => ?_, fun b hb hp => ?_⟩⟩
        · split at h
          · omega
          · cases base with
            | none => have := e3 rfl; omega
            | some b => cases h
        · rw [if_neg (by omega)] at hb
          cases base with
          | none => cases hb
          | some b0 =>
            simp only [Option.map_some, Option.some.injEq] at hb
            exact ⟨b0, (e4 b0 rfl (by omega)).1, by rw [← hb, hes], ((e4 b0 rfl (by omega)).2).mono (Nat.mul_le_mul_right _ (by omega))⟩
      cases mo with
      | some mm =>
        simp only at hk2
        cases hmode : Nat.beq mode 2 with
        | true =>
          rw [hmode] at hk2
          simp only [cond_true] at hk2
          split at hk2
          · rename_i hmm
            subst hmm
            exact ⟨_, _, hk2, sub false (fun h => by cases h) (fun _ => .inr rfl)⟩
          · cases hk2
        | false =>
        rw [hmode] at hk2
        simp only [cond_false] at hk2
        split at hk2
        · rename_i hmm
          subst hmm
          exact ⟨_, _, hk2, sub true (fun _ => rfl) (fun h => by cases h)⟩
        · cases hk2
      | none =>
        simp only at hk2
        cases hmode : Nat.beq mode 1 with
        | false =>
          rw [hmode] at hk2
          exact ⟨_, _, hk2, sub false (fun h => by cases h) (fun _ => .inl rfl)⟩
        | true =>
          rw [hmode] at hk2
          simp only [cond_true] at hk2
          refine ⟨_, _, hk2, fun next Q hnext => ?_⟩
          unfold Oper.wp
          rw [hrun, Oper.upon_value]
          simp only [Option.getD_none]
          rcases hrel with ⟨h1, h2⟩ | ⟨blk, off, c, et, css, h1, h2, A, pre, post, h4, h5⟩
          · subst h2
            simp only [h1] at hr
            obtain ⟨b, hb⟩ := hr
            rw [hc0] at e1
            rw [hb] at e1
            simp only [List.length_nil, Value.slice.injEq, true_and] at e1
            obtain ⟨rfl, rfl⟩ := e1
            obtain ⟨G, V⟩ := goes_bare (g' := g') H.mem H.h h0 h1
            simp only [List.length_nil] at g2
            have z1 : hh' = 0 := by omega
            have z2 : ll = 0 := by omega
            subst z1; subst z2
            exact hnext _ _ _ G (by rw [applyUps_one]; simp) (V b)
          · simp only [h1] at hr
            obtain ⟨cap', f1, f2, f3⟩ := hr
            rw [hc0, f1] at e1
            simp only [Value.slice.injEq, true_and] at e1
            obtain ⟨rfl, rfl⟩ := e1
            have hroom := f3 c et (0, 0) h2
            simp only at hroom
            have hw : ∀ b, w.heap[b]? = if b = blk then some (Obj.cells c et (0, 0)) else w.heap[b]? := by
              intro b; by_cases hbb : b = blk
              · subst hbb; rw [if_pos rfl]; exact heap_at H h2
              · rw [if_neg hbb]
            by_cases hz : cap' = ll
            · have hx0 : (xs.take hh').drop ll = [] := List.drop_eq_nil_of_le (by rw [List.length_take]; omega)
              rw [if_pos hz]
              obtain ⟨G, V⟩ := goes_moved (w' := w) (zs := []) H.mem H.h h0 (blk := blk) (off := off) (c' := c) (e := et) (.inl ⟨off, h1⟩) hw rfl rfl rfl (Nat.le_refl _) (css := []) (pre := pre) (post := css.flatten ++ post) (by rw [h4]; simp) h5 All2.nil
              have V := V 0 (Nat.le_refl _) (by rw [Nat.zero_mul]; omega)
              rw [show hh' - ll = 0 by omega, show cap' - ll = 0 by omega]
              exact hnext _ _ _ G (by rw [applyUps_one, hx0]; rfl) V
            · rw [if_neg hz]
              have hA : All2 (τ.Rel x.h (x.F true)) ((xs.take hh').drop ll) ((css.take hh').drop ll) := drop_all2 (take_take_all2 A hh') ll
              have hsplit : css.flatten = (css.take ll).flatten ++ ((css.take hh').drop ll).flatten ++ (css.drop hh').flatten := by
                have e5 : css.take ll = (css.take hh').take ll := by rw [List.take_take, Nat.min_eq_left g1]
                rw [e5, ← List.flatten_append, List.take_append_drop, ← List.flatten_append, List.take_append_drop]
              have hpl : (css.take ll).flatten.length = ll * τ.size := by
                rw [flatten_length (n := τ.size) (fun d hd => A.lengths d (List.mem_of_mem_take hd)), List.length_take, ← A.1, Nat.min_eq_left (by omega)]
              obtain ⟨G, V⟩ := goes_moved (w' := w) (zs := (xs.take hh').drop ll) H.mem H.h h0 (blk := blk) (off := off + ll * τ.size) (c' := c) (e := et) (.inl ⟨off, h1⟩) hw rfl rfl rfl (Nat.le_refl _) (css := (css.take hh').drop ll) (pre := pre ++ (css.take ll).flatten) (post := (css.drop hh').flatten ++ post)
                (by rw [h4, hsplit]; simp [List.append_assoc]) (by rw [List.length_append, h5, hpl]) hA
              have hzl : ((xs.take hh').drop ll).length = hh' - ll := by rw [List.length_drop, List.length_take]; omega
              have V := V (cap' - ll) (by rw [hzl]; omega) (by
                have e6 : cap' * τ.size = ll * τ.size + (cap' - ll) * τ.size := by rw [← Nat.add_mul]; congr 1; omega
                omega)
              rw [hzl] at V
              simp only [Option.map_some, add_mk, hes]
              exact hnext _ _ _ G applyUps_one V
    · -- a part of a slice
      rename_i r g lo0 len
      split at hk
      case h_2 => cases hk
      rename_i g' τ xs hg
      obtain ⟨hc, hk⟩ := cond_some hk
      rw [Bool.and_eq_true] at hc
      have hgg := Nat.eq_of_beq_eq_true hc.1
      have hes := Nat.eq_of_beq_eq_true hc.2
      have h0 := H.obj r _ hg
      have hobj := obj_of_get H.mem h0
      obtain ⟨c0, hc0, _, hr⟩ := (show (AVal.sub r g lo0 len false).C x [a.eval xo] from hv)
      simp only [List.cons.injEq, and_true] at hc0
      unfold SubRel at hr
      rw [hobj] at hr
      obtain ⟨hgle, hr⟩ := hr
      obtain ⟨hle, base, cap, e1, e2, _, e2', e3, e4⟩ := hr hgg
      have e2' := e2' rfl
      rw [e1] at hc0
      obtain ⟨ll, hh', mo, hk2, g1, g2, g3, g4⟩ := boundsK_ok (P := P) (w := w) hl hh hm (len := len) (top := xs.length - lo0) (by omega) e2' hk
      have hrun := run _ _ _ _ _ _ hc0 g4
      have sub : ∀ (ex : Bool), (ex = true → mo = some hh') → (ex = false → mo = none) → ActOk P o a w x (.sub r g (lo0 + ll) (hh' - ll) ex) [] := by
        intro ex x1 x2
        refine ActOk.value H.mem H.h hrun (show (AVal.sub r g (lo0 + ll) (hh' - ll) ex).C x _ from ⟨_, rfl, rfl, ?_⟩)
        unfold SubRel
        rw [hobj]
        have hcap : hh' ≤ mo.getD cap := by
          cases mo with
          | none => simp only [Option.getD_none]; omega
          | some mm => simp only [Option.getD_some]; exact (g3 mm rfl).1
        have hcap2 : mo.getD cap ≤ cap := by
          cases mo with
          | none => simp only [Option.getD_none]; omega
          | some mm => simp only [Option.getD_some]; have := (g3 mm rfl).2; omega
        refine ⟨hgle, fun _ => ⟨by omega, _, _, rfl, by omega, fun h => by rw [x1 h]; rfl, fun h => by rw [x2 h]; simp only [Option.getD_none]; omega, fun h => ?_, fun b hb hp => ?_⟩⟩
        · split at h
          · omega
          · cases base with
            | none => have := e3 rfl; omega
            | some b => cases h
        · rw [if_neg (by omega)] at hb
          cases base with
          | none => cases hb
          | some b0 =>
            simp only [Option.map_some, Option.some.injEq] at hb
            obtain ⟨a0, ha0, hb0, hroom0⟩ := e4 b0 rfl (by omega)
            refine ⟨a0, ha0, ?_, hroom0.mono (Nat.mul_le_mul_right _ (by omega))⟩
            rw [← hb, hb0, hes]
            have hrel := H.mem.objs r
            rw [hobj] at hrel
            rcases hrel with ⟨h1, _⟩ | ⟨blk, off, c, et, css, h1, _⟩
            · rw [h1] at ha0; cases ha0
            · rw [h1] at ha0; cases ha0
              simp only [add_mk, Nat.add_mul, Nat.add_assoc]
      cases mo with
      | some mm =>
        simp only at hk2
        split at hk2
        · rename_i hmm
          subst hmm
          exact ⟨_, _, hk2, sub true (fun _ => rfl) (fun h => by cases h)⟩
        · cases hk2
      | none =>
        simp only at hk2
        cases hmode : Nat.beq mode 1 with
        | false =>
          rw [hmode] at hk2
          exact ⟨_, _, hk2, sub false (fun h => by cases h) (fun _ => rfl)⟩
        | true => rw [hmode] at hk2; cases hk2
    · -- data
      rename_i own τ xs
      obtain ⟨hc, hk⟩ := cond_some hk
      have hes := Nat.eq_of_beq_eq_true hc
      obtain ⟨base, len, cap, hu', hlen, hcap, hnil, hb⟩ := (show (Ty.slice τ).Rel x.h (x.F own) xs [a.eval xo] from hv)
      simp only [List.cons.injEq, and_true] at hu'
      obtain ⟨ll, hh', mo, hk2, g1, g2, g3, g4⟩ := boundsK_ok (P := P) (w := w) hl hh hm (len := xs.length) (top := xs.length) (cap := cap) (Nat.le_refl _) (by omega) hk
      rw [hlen] at hu'
      have hrun := run _ _ _ _ _ _ hu' g4
      cases mo with
      | some mm =>
        simp only at hk2
        split at hk2
        · rename_i hmm
          subst hmm
          have := (g3 mm rfl).1
          refine ⟨_, _, hk2, ActOk.value H.mem H.h hrun (show AVal.nils.C x _ from ⟨base, by simp only [Option.getD_some, if_true, show hh' - mm = 0 by omega, Nat.sub_self]⟩)⟩
        · cases hk2
      | none =>
        simp only at hk2
        refine ⟨_, _, hk2, ActOk.value H.mem H.h hrun (show (Ty.slice τ).Rel x.h (x.F own) _ _ from ?_)⟩
        have hzl : ((xs.take hh').drop ll).length = hh' - ll := by rw [List.length_drop, List.length_take]; omega
        refine ⟨_, _, _, rfl, hzl.symm, by simp only [Option.getD_none]; omega, fun h => ?_, fun hp => ?_⟩
        · simp only [Option.getD_none] at h ⊢
          split at h
          · omega
          · cases base with
            | none => have := hnil rfl; omega
            | some b => cases h
        · simp only [Option.getD_none]
          rw [if_neg (by omega)]
          obtain ⟨b, of, h1, h2, css, ⟨c, e', fr, h3, h4⟩, A⟩ := hb (by omega)
          rw [h1]
          refine ⟨b, of + ll * ed.size, by simp only [Option.map_some, add_mk], h2, (css.take hh').drop ll, ⟨c, e', fr, h3, fun j v hj => ?_⟩, drop_all2 (take_take_all2 A hh') ll⟩
          have hsplit : css.flatten = (css.take ll).flatten ++ (((css.take hh').drop ll).flatten ++ (css.drop hh').flatten) := by
            have e5 : css.take ll = (css.take hh').take ll := by rw [List.take_take, Nat.min_eq_left g1]
            rw [e5, ← List.append_assoc, ← List.flatten_append, List.take_append_drop, ← List.flatten_append, List.take_append_drop]
          have hpl : (css.take ll).flatten.length = ll * τ.size := by
            rw [flatten_length (n := τ.size) (fun d hd => A.lengths d (List.mem_of_mem_take hd)), List.length_take, ← A.1, Nat.min_eq_left (by omega)]
          have := h4 (ll * τ.size + j) v (by
            rw [hsplit, List.getElem?_append_right (by omega), hpl, show ll * τ.size + j - ll * τ.size = j by omega, List.getElem?_append_left (List.getElem?_eq_some_iff.1 hj).1]; exact hj)
          rw [← this, hes]; congr 1; omega
    · -- nil
      obtain ⟨b, hb⟩ := (show AVal.nils.C x [a.eval xo] from hv)
      simp only [List.cons.injEq, and_true] at hb
      obtain ⟨ll, hh', mo, hk2, g1, g2, g3, g4⟩ := boundsK_ok (P := P) (w := w) hl hh hm (len := 0) (top := 0) (Nat.le_refl _) (Nat.le_refl _) hk
      have hrun := run _ _ _ _ _ _ hb g4
      have z1 : hh' = 0 := by omega
      have z2 : ll = 0 := by omega
      have z3 : mo.getD 0 = 0 := by
        cases mo with
        | none => rfl
        | some mm => have := (g3 mm rfl).2; simp only [Option.getD_some]; omega
      subst z1; subst z2
      exact ⟨_, _, hk2, ActOk.value H.mem H.h hrun (show AVal.nils.C x _ from ⟨b, by simp [z3]⟩)⟩
    · cases hk
  · split at hk
    · cases mx with
      | some _ => cases hm
      | none => exact actSliceStr_ok H ho hv hl hh hk
    · cases hk
  · cases hk

theorem le48 : (140737488355328 : Int) ≤ 281474976710656 := by decide
theorem le63 : (140737488355328 : Int) ≤ 9223372036854775807 := by decide
theorem make_fits {c : Int} {b : Nat} (h0 : 0 ≤ c) (hb : 1 ≤ b) (h : c * (b : Int) ≤ 140737488355328) : c ≤ 140737488355328 := by
  have h1 : c * 1 ≤ c * (b : Int) := Int.mul_le_mul_of_nonneg_left (by omega) h0
  omega
theorem make_nat {n c : Int} (h0 : 0 ≤ n) (h : n ≤ c) : n.toNat + (c.toNat - n.toNat) = c.toNat ∧ n.toNat ≤ c.toNat := by omega

theorem actMakeSlice_ok (H : Meets P T ρ get a w x) {o : Oper} {base : Nat} {t : TypeId} {no co : Operand} (ho : o.op = .makeSlice t no co) {n c : AVal} (hn : n.V x (a.eval no)) (hc : c.V x (a.eval co))
    {k : AVal → Ups → Option R} {z : R} (hk : actMakeSlice T get base t n c k = some z) : ∃ u ups, k u ups = some z ∧ ActOk P o a w x u ups := by
  unfold actMakeSlice at hk
  split at hk
  case h_2 => cases hk
  rename_i e hu
  have ht : P.underlying t = some (.slice e) := undOf_ok H.tbl hu (by simp)
  split at hk
  case h_2 => cases hk
  rename_i ed τ hed hτ
  obtain ⟨hcond, hk⟩ := cond_some hk
  simp only [Bool.and_eq_true] at hcond
  obtain ⟨⟨⟨⟨c1, c2⟩, c3⟩, c4⟩, c5⟩ := hcond
  have c1 := Nat.le_of_ble_eq_true c1
  have c3 := Nat.eq_of_beq_eq_true c3
  have c4 := Nat.eq_of_beq_eq_true c4
  split at hk
  case h_2 => cases hk
  rename_i zd q1 k1 n' q2 k2 c' hzd hg hkk
  clear hkk
  split at hk
  case isFalse => cases hk
  rename_i hfit
  refine ⟨_, _, hk, ?_⟩
  have hok := H.tbl e ed hed
  obtain ⟨i, zz, hi, his, hib, hz, hzv⟩ := info_parts hok
  have h0 := H.obj base _ hg
  have hn := V_int.1 hn
  have hc := V_int.1 hc
  have hcs : zz.cells.toList.length = τ.size ∧ τ.Rel x.h (x.F true) zd zz.cells.toList := by
    obtain ⟨hC, _, _⟩ := V_inv c2 (hzv x)
    exact ⟨by rw [AVal.C.length _ _ hC, c3, c4], toDat_C τ _ _ _ hzd hC⟩
  have hcb : c' * (ed.bytes : Int) ≤ 140737488355328 := hfit.2.2
  have hn0 : (0 : Int) ≤ n' := hfit.1
  have hnc : (n' : Int) ≤ c' := hfit.2.1
  have hc63 : (c' : Int) ≤ 140737488355328 := make_fits (Int.le_trans hn0 hnc) c1 hcb
  have hrun := run_make (P := P) w t e i zz ht hi hz k1 k2 n' c' hfit.1 hfit.2.1 (by rw [hib, Int.mul_comm]; exact Int.le_trans hcb le48) (Int.le_trans hc63 le63)
  intro next Q hnext
  unfold Oper.wp
  have hex : (execOp a.eval o).run P w = .ok (.value (.slice (some ⟨w.heap.size, 0, none⟩) n'.toNat c'.toNat)) (w.alloc (.cells (madeCells zz.cells (c'.toNat * i.size)) e)) := by
    simp only [execOp, ho, hn, hc, Sem.run_bind, hrun, Result.andThen_ok, Sem.run_pure]
  rw [hex, Oper.upon_value]
  have hcells : (madeCells zz.cells (c'.toNat * i.size)).toList = (List.replicate c'.toNat zz.cells.toList).flatten := by
    unfold madeCells
    rw [his, c4, ← hcs.1, Array.length_toList]
    exact made_zeros _ _
  have hsplit : (List.replicate c'.toNat zz.cells.toList).flatten = (List.replicate n'.toNat zz.cells.toList).flatten ++ (List.replicate (c'.toNat - n'.toNat) zz.cells.toList).flatten := by
    rw [← List.flatten_append, List.replicate_append_replicate, (make_nat hn0 hnc).1]
  have hsize : (madeCells zz.cells (c'.toNat * i.size)).size = c'.toNat * τ.size := by
    rw [← Array.length_toList, hcells, flatten_length (n := τ.size) (fun d hd => by rw [List.eq_of_mem_replicate hd]; exact hcs.1), List.length_replicate]
  obtain ⟨G, V⟩ := slc_made (e := e) (ys := List.replicate n'.toNat zd) (cells := madeCells zz.cells (c'.toNat * i.size)) h0 H.h H.mem (css := List.replicate n'.toNat zz.cells.toList) (post := (List.replicate (c'.toNat - n'.toNat) zz.cells.toList).flatten)
    (by rw [hcells, hsplit]) (All2.replicate hcs.2 _) (cap := c'.toNat) (by rw [List.length_replicate]; exact (make_nat hn0 hnc).2) (by rw [hsize]; exact Nat.le_refl _) w.drawn
  rw [List.length_replicate] at V
  exact hnext _ _ _ G applyUps_one V
end
end Go.Am

/- The abstract machine: rows of which a part is cleared; a part of a row as a row. -/
namespace Go.Am

section defs
variable {R : Type} (T : Tbl)
/-- 'clear' of a part of a row. -/
def actClear (get : Nat → Option AObj) (t : TypeId) (v : AVal) (k : AVal → Ups → Option R) : Option R :=
  match undOf T t with
  | .slice e => match T e with
    | some ed => match v with
      | .sub r g lo len _ => match get r with
        | some (.arr g' τ xs) => bif Nat.beq g g' && Nat.beq ed.size τ.size && ed.zero.flat then
            (match toDat τ ed.zero with
            | some z => k (.tup .nil) [(r, .arr g' τ (xs.take lo ++ List.replicate len z ++ xs.drop (lo + len)))]
            | none => none) else none
        | _ => none
      | .nils => k (.tup .nil) []
      | _ => none
    | none => none
  | _ => none
end defs

section
variable {P : Program} {T : Tbl} {ρ : Operand → Option AVal} {get : Nat → Option AObj} {a : Act} {w : World} {x : Ctx} {R : Type}

theorem run_clear_none {t e ty : TypeId} (ht : P.underlying t = some (.slice e)) (b : Option Addr) (cap : Nat) : (Builtin.clear_ #[t] ty #[.slice b 0 cap]).run P w = .ok (.tuple #[]) w := by
  cases b <;> simp [Builtin.clear_, run_underlying ht]

theorem run_clear_row {t e ty : TypeId} (ht : P.underlying t = some (.slice e)) {zv : Value} (hz : (zeroValue e).run P w = .ok zv w) {b off n cap : Nat} (hn : 0 < n) {c : Array Value} {et : TypeId} (hb : w.heap[b]? = some (.cells c et (0, 0)))
    {pre mid post : List Value} (hc : c.toList = pre ++ mid ++ post) (hp : pre.length = off) (hm : mid.length = n * zv.cells.size) (h1 : ∀ v ∈ zv.cells.toList, v.oneCell' = true) :
    (Builtin.clear_ #[t] ty #[.slice (some ⟨b, off, none⟩) n cap]).run P w = .ok (.tuple #[]) (w.setRow b (pre ++ (List.replicate n zv.cells.toList).flatten ++ post).toArray) := by
  have hlen : c.size = pre.length + mid.length + post.length := by rw [← Array.length_toList, hc]; simp; omega
  have hzc : (Builtin.zeroCells zv.cells n).toList = (List.replicate n zv.cells.toList).flatten := made_zeros zv.cells n
  have hzl : ((List.replicate n zv.cells.toList).flatten).length = n * zv.cells.size := by
    rw [flatten_length (n := zv.cells.size) (fun d hd => by rw [List.eq_of_mem_replicate hd, Array.length_toList]), List.length_replicate]
  have hst := run_storeCells_at (P := P) b off et (List.replicate n zv.cells.toList).flatten 0 c w hb (by rw [hzl, hlen]; omega) (fun v hv => by
    obtain ⟨d, hd, hv⟩ := List.mem_flatten.1 hv
    rw [List.eq_of_mem_replicate hd] at hv
    exact h1 v hv)
  have e1 : List.take (off + 0) c.toList = pre := by rw [hc, ← hp]; simp
  have e2 : List.drop (off + 0 + ((List.replicate n zv.cells.toList).flatten).length) c.toList = post := by
    rw [hc, ← hp, hzl, ← hm, List.append_assoc, show pre.length + 0 + mid.length = pre.length + mid.length by omega, ← List.drop_drop, List.drop_left, List.drop_left]
  rw [e1, e2] at hst
  have hst' : (storeCells ⟨b, off, none⟩ (List.replicate n zv.cells.toList).flatten).run P w = .ok () (w.setRow b (pre ++ (List.replicate n zv.cells.toList).flatten ++ post).toArray) := hst
  obtain ⟨m, rfl⟩ : ∃ m, n = m + 1 := ⟨n - 1, by omega⟩
  rw [← hzc] at hst' ⊢
  simp [Builtin.clear_, run_underlying ht, hz, hst']

theorem run_clear_call {o : Oper} {vo : Operand} {ats : Array TypeId} (ho : o.op = .call { callee := .builtin .clear, args := #[vo], argTypes := ats }) :
    (execOp a.eval o).run P w = ((Builtin.clear_ ats o.type #[a.eval vo]).run P w).andThen fun v w' => .ok (.value v) w' := by
  simp only [execOp, ho, resolve, invoke, builtin, Sem.run_bind, Sem.run_pure, Result.andThen_ok, List.map_toArray, List.map_cons, List.map_nil]

theorem actClear_ok (H : Meets P T ρ get a w x) {o : Oper} {t : TypeId} {vo : Operand} (ho : o.op = .call { callee := .builtin .clear, args := #[vo], argTypes := #[t] })
    {v : AVal} (hv : v.V x (a.eval vo)) {k : AVal → Ups → Option R} {z : R} (hk : actClear T get t v k = some z) : ∃ u ups, k u ups = some z ∧ ActOk P o a w x u ups := by
  unfold actClear at hk
  split at hk
  case h_2 => cases hk
  rename_i e hu
  have ht : P.underlying t = some (.slice e) := undOf_ok H.tbl hu (by simp)
  split at hk
  case h_2 => cases hk
  rename_i ed hed
  have fin : ∀ (val : Value) (w' : World) (u : AVal) (ups : Ups) (x' : Ctx), (Builtin.clear_ #[t] o.type #[a.eval vo]).run P w = .ok val w' → Goes x w x' w' → x'.σ = applyUps x.σ ups → u.V x' val → ActOk P o a w x u ups := by
    intro val w' u ups x' hrun G hσ hV next Q hnext
    unfold Oper.wp
    rw [run_clear_call ho, hrun]
    simp only [Result.andThen_ok, Oper.upon_value]
    exact hnext _ _ _ G hσ hV
  have hnil : ∀ x' : Ctx, (AVal.tup .nil).V x' (.tuple #[]) := fun x' => ⟨[], rfl, rfl⟩
  split at hk
  case h_3 => cases hk
  case h_2 =>
    obtain ⟨b0, e1⟩ : ∃ b, a.eval vo = .slice b 0 0 := by simpa [AVal.V, AVal.agg, AVal.C] using hv
    exact ⟨_, _, hk, fin _ w _ _ x (by rw [e1]; exact run_clear_none ht _ _) (.refl H.mem H.h) rfl (hnil _)⟩
  rename_i r g lo len ex
  split at hk
  case h_2 => cases hk
  rename_i g' τ xs hg
  obtain ⟨hc, hk⟩ := cond_some hk
  simp only [Bool.and_eq_true] at hc
  have hgg := Nat.eq_of_beq_eq_true hc.1.1
  have hsz := Nat.eq_of_beq_eq_true hc.1.2
  split at hk
  case h_2 => cases hk
  rename_i zd hzd
  refine ⟨_, _, hk, ?_⟩
  have h0 := H.obj r _ hg
  have hobj := obj_of_get H.mem h0
  obtain ⟨c0, hc0, _, hr⟩ := (show (AVal.sub r g lo len ex).C x [a.eval vo] from hv)
  simp only [List.cons.injEq, and_true] at hc0
  unfold SubRel at hr
  rw [hobj] at hr
  obtain ⟨hle, sb, cap, e1, e2, _, _, e5, e6⟩ := hr.2 hgg
  rw [e1] at hc0
  rcases Nat.eq_zero_or_pos len with hn | hn
  · subst hn
    have hsame : xs.take lo ++ List.replicate 0 zd ++ xs.drop (lo + 0) = xs := by simp
    refine fin _ w _ _ x (by rw [hc0]; exact run_clear_none ht _ _) (.refl H.mem H.h) ?_ (hnil _)
    rw [applyUps_one, hsame]
    obtain ⟨hl, hlt⟩ := List.getElem?_eq_some_iff.1 h0
    rw [← hlt, List.set_getElem_self]
  · have hrel := H.mem.objs r
    rw [hobj] at hrel
    rcases hrel with ⟨h1, h2⟩ | ⟨blk, off, c, et, css, h1, h2, A, pre, post, h4, h5⟩
    · subst h2; simp only [List.length_nil] at hle; omega
    · cases sb with
      | none => have := e5 rfl; omega
      | some b0 =>
        obtain ⟨a0, f1, f3, _⟩ := e6 b0 rfl (by omega)
        rw [h1] at f1; cases f1
        rw [add_mk] at f3; subst f3
        obtain ⟨zv, hzr, hzv⟩ := (H.tbl e ed hed).zeroValue (w := w)
        obtain ⟨hzC, _, _⟩ := V_inv hc.2 (hzv x)
        have hzR := toDat_C τ ed.zero zd _ hzd hzC
        have hzl : zv.cells.size = τ.size := by rw [← Array.length_toList]; exact Ty.Rel.length τ _ _ hzR
        have hcl := A.1
        have hsplit : css.flatten = (css.take lo).flatten ++ ((css.drop lo).take len).flatten ++ (css.drop (lo + len)).flatten := by
          conv => lhs; rw [← List.take_append_drop lo css, ← List.take_append_drop len (css.drop lo)]
          simp [List.flatten_append, List.append_assoc, List.drop_drop]
        have hpl : (css.take lo).flatten.length = lo * τ.size := by
          rw [flatten_length (n := τ.size) (fun d hd => A.lengths d (List.mem_of_mem_take hd)), List.length_take, Nat.min_eq_left (by omega)]
        have hml : ((css.drop lo).take len).flatten.length = len * τ.size := by
          rw [flatten_length (n := τ.size) (fun d hd => A.lengths d (List.mem_of_mem_drop (List.mem_of_mem_take hd))), List.length_take, List.length_drop, Nat.min_eq_left (by omega)]
        have hrl : ((List.replicate len zv.cells.toList).flatten).length = len * τ.size := by
          rw [flatten_length (n := τ.size) (fun d hd => by rw [List.eq_of_mem_replicate hd, Array.length_toList, hzl]), List.length_replicate]
        have hrun := run_clear_row (P := P) (w := w) (ty := o.type) ht hzr (n := len) (cap := cap) hn (heap_at H h2) (pre := pre ++ (css.take lo).flatten) (mid := ((css.drop lo).take len).flatten) (post := (css.drop (lo + len)).flatten ++ post)
          (by rw [h4, hsplit]; simp [List.append_assoc]) (off := off + lo * τ.size) (by rw [List.length_append, h5, hpl]) (by rw [hml, hzl]) (Ty.Rel.oneCell τ _ _ hzR)
        have hxl : (xs.take lo ++ List.replicate len zd ++ xs.drop (lo + len)).length = xs.length := by
          simp only [List.length_append, List.length_take, List.length_drop, List.length_replicate]; omega
        have G := goes_over (w' := w.setRow blk (pre ++ (css.take lo).flatten ++ (List.replicate len zv.cells.toList).flatten ++ ((css.drop (lo + len)).flatten ++ post)).toArray) (zs := xs.take lo ++ List.replicate len zd ++ xs.drop (lo + len)) H.mem H.h h0 (e := et) h1 h2
          (c' := (pre ++ (css.take lo).flatten ++ (List.replicate len zv.cells.toList).flatten ++ ((css.drop (lo + len)).flatten ++ post)).toArray)
          (by
            have e7 : c.size = pre.length + css.flatten.length + post.length := by rw [← Array.length_toList, h4]; simp; omega
            have e8 := congrArg List.length hsplit
            simp only [List.length_append] at e8
            rw [e7]; simp only [List.size_toArray, List.length_append]; omega) hxl rfl
          (css := css.take lo ++ List.replicate len zv.cells.toList ++ css.drop (lo + len)) (pre := pre) (post := post) (by simp) h5 (((take_take_all2 A _).append (All2.replicate hzR _)).append (drop_all2 A _))
        exact fin _ _ _ _ _ (by rw [hc0]; exact hrun) G applyUps_one (hnil _)

/-- A part of a row, told as the row itself. -/
theorem goes_cut (M : Mem x) (hh : x.h = fun b => w.heap[b]?) {r g' lo len : Nat} {τ : Ty} {xs : List τ.den} (h0 : x.σ[r]? = some (.arr g' τ xs)) (hlo : lo < xs.length) :
    ∃ x1, Goes x w x1 w ∧ x1.σ = x.σ.set r (.arr (g' + 1) τ ((xs.drop lo).take len)) ∧ ∀ c, (AVal.sub r g' lo len false).C x c → (AVal.slc r (g' + 1)).C x1 c := by
  have hobj := obj_of_get M h0
  have hrel := M.objs r
  rw [hobj] at hrel
  rcases hrel with ⟨h1, h2⟩ | ⟨blk, off, c, et, css, h1, h2, A, pre, post, h4, h5⟩
  · subst h2; cases hlo
  · have hheap : w.heap[blk]? = some (.cells c et (0, 0)) := by rw [hh] at h2; exact h2
    have hw : ∀ b, w.heap[b]? = if b = blk then some (Obj.cells c et (0, 0)) else w.heap[b]? := by
      intro b; by_cases hbb : b = blk
      · subst hbb; rw [if_pos rfl]; exact hheap
      · rw [if_neg hbb]
    have hA : All2 (τ.Rel x.h (x.F true)) ((xs.drop lo).take len) ((css.drop lo).take len) := take_take_all2 (drop_all2 A lo) len
    have hsplit : css.flatten = (css.take lo).flatten ++ ((css.drop lo).take len).flatten ++ ((css.drop lo).drop len).flatten := by
      conv => lhs; rw [← List.take_append_drop lo css, ← List.take_append_drop len (css.drop lo)]
      simp [List.flatten_append, List.append_assoc]
    have hcl := A.1
    have hpl : (css.take lo).flatten.length = lo * τ.size := by
      rw [flatten_length (n := τ.size) (fun d hd => A.lengths d (List.mem_of_mem_take hd)), List.length_take, Nat.min_eq_left (by omega)]
    obtain ⟨G, V⟩ := goes_moved (w' := w) (zs := (xs.drop lo).take len) M hh h0 (blk := blk) (off := off + lo * τ.size) (c' := c) (e := et) (.inl ⟨off, h1⟩) hw rfl rfl rfl (Nat.le_refl _) (css := (css.drop lo).take len) (pre := pre ++ (css.take lo).flatten) (post := ((css.drop lo).drop len).flatten ++ post)
      (by rw [h4, hsplit]; simp [List.append_assoc]) (by rw [List.length_append, h5, hpl]) hA
    refine ⟨_, G, rfl, fun cs hcs => ?_⟩
    obtain ⟨u, rfl, _, hu⟩ := hcs
    unfold SubRel at hu
    rw [hobj] at hu
    obtain ⟨hle, sb, cap, e1, e2, _, e4, e5, e6⟩ := hu.2 rfl
    have e4 := e4 rfl
    cases sb with
    | none => have := e5 rfl; omega
    | some b0 =>
      obtain ⟨a0, f1, f3, f4⟩ := e6 b0 rfl (by omega)
      rw [h1] at f1; cases f1
      rw [add_mk] at f3; subst f3
      have hroom : off + (lo + cap) * τ.size ≤ c.size := f4 c et (0, 0) h2
      have hzl : ((xs.drop lo).take len).length = len := by rw [List.length_take, List.length_drop]; omega
      have V := V cap (by rw [hzl]; exact e2) (by rw [Nat.add_mul] at hroom; omega)
      rw [hzl] at V
      rw [e1]; exact V
end
end Go.Am
