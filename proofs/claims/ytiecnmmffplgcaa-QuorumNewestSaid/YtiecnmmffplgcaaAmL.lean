/- The abstract machine, twelfth part: slices that the call makes, and appends. -/
import Derived.Test.YtiecnmmffplgcaaAmK
import Derived.Deep.Upon
namespace Go.Am

section defs
variable {R : Type} (T : Tbl)

/-- The type of data that a Go type's values are. -/
def tyList : List (Option Ty) → Option Ty
  | [] => some .unit
  | [some t] => some (.one t)
  | some t :: l => match tyList l with
    | some (.one u) => some (.pair t u)
    | some u => some (.pair t u)
    | none => none
  | none :: _ => none

def tyOf (T : Tbl) : Nat → TypeId → Option Ty
  | 0, _ => none
  | n + 1, t => match undOf T t with
    | .int k => some (.int k)
    | .bool => some .bool
    | .str => some .str
    | .arr m e => match tyOf T n e with | some u => some (.arr m u) | none => none
    | .slice e => match tyOf T n e with | some u => some (.slice u) | none => none
    | .struct fs => tyList (fs.map fun f => tyOf T n f.2)
    | _ => none

/-- A value as data. -/
def toDat : (t : Ty) → AVal → Option t.den
  | t, .dat q t' d => bif q || t'.plain then (if h : t' = t then some (h ▸ d) else none) else none
  | .slice _, .nils => some []
  | .pair a b, .pair u v => match toDat a u, toDat b v with
    | some d, some e => some (d, e)
    | _, _ => none
  | .one a, .one u => toDat a u
  | _, _ => none

/-- A literal's parts as data. -/
def datParts (τ : Ty) : List (Nat × AVal) → Option (List (Nat × AVal))
  | [] => some []
  | (j, u) :: l => match toDat τ u, datParts τ l with
    | some d, some m => some ((j, .dat true τ d) :: m)
    | _, _ => none

def actBuildSlice (get : Nat → Option AObj) (base : Nat) (t : TypeId) (len : Nat) (parts : List (Nat × AVal)) (k : AVal → Ups → Option R) : Option R :=
  match undOf T t with
  | .slice e => match T e, tyOf T 12 e with
    | some ed, some τ => match toDat τ ed.zero, datParts τ parts, get base with
      | some z, some parts, some .free => bif Nat.beq ed.size τ.size && (ed.und.agg == τ.agg) && Nat.ble (len * ed.size) 16777216 && ed.zero.flat then
          buildArrK ed.size (.dat true (.arr len τ) (List.replicate len z)) parts fun
            | .dat true (.arr n τ') ys => bif Nat.beq n len && Nat.beq τ'.size ed.size then k (.slc base 0) [(base, .arr 0 τ' ys)] else none
            | _ => none else none
      | _, _, _ => none
    | _, _ => none
  | _ => none

/-- What an append appends. -/
def srcK (get : Nat → Option AObj) (v : AVal) (τ : Ty) (k : List τ.den → Option R) : Option R :=
  match v with
  | .slc r g => match get r with
    | some (.arr g' τ' xs) => bif Nat.beq g g' then (if h : τ' = τ then k (h ▸ xs) else none) else none
    | _ => none
  | .sub r g lo len _ => match get r with
    | some (.arr g' τ' xs) => bif Nat.beq g g' then (if h : τ' = τ then k (h ▸ ((xs.drop lo).take len)) else none) else none
    | _ => none
  | .dat q (.slice τ') xs => bif q || τ'.plain then (if h : τ' = τ then k (h ▸ xs) else none) else none
  | .nils => k []
  | _ => none

def actAppend (get : Nat → Option AObj) (base : Nat) (t tx : TypeId) (s v : AVal) (k : AVal → Ups → Option R) : Option R :=
  match undOf T t, undOf T tx with
  | .slice e, .slice _ => match T e with
    | some ed => bif Nat.ble 1 ed.bytes && ed.zero.flat && Nat.beq ed.zero.sh.size ed.size then (match s with
      | .slc r g => match get r with
        | some (.arr g' τ xs) => bif Nat.beq g g' && Nat.beq ed.size τ.size then
            srcK get v τ fun ys => if (xs.length + ys.length) * ed.bytes ≤ 140737488355328 then k (.slc r (g' + 1)) [(r, .arr (g' + 1) τ (xs ++ ys))] else none else none
        | _ => none
      | .nils => match tyOf T 12 e, get base with
        | some τ, some .free => bif Nat.beq ed.size τ.size then
            srcK get v τ fun ys => if ys.length * ed.bytes ≤ 140737488355328 then k (.slc base 0) [(base, .arr 0 τ ys)] else none else none
        | _, _ => none
      | .sub r g lo len false => match get r with
        | some (.arr g' τ xs) => bif Nat.beq g g' && Nat.beq ed.size τ.size then
            srcK get v τ fun ys => if lo + len + ys.length ≤ xs.length then k (.sub r g lo (len + ys.length) false) [(r, .arr g' τ (xs.take (lo + len) ++ ys ++ xs.drop (lo + len + ys.length)))] else none else none
        | _ => none
      | .sub r g lo len true => match get r, get base with
        | some (.arr g' τ xs), some .free => bif Nat.beq g g' && Nat.beq ed.size τ.size then
            srcK get v τ fun ys => if (0 < ys.length ∨ len = 0) ∧ (len + ys.length) * ed.bytes ≤ 140737488355328 then k (.slc base 0) [(base, .arr 0 τ ((xs.drop lo).take len ++ ys))] else none else none
        | _, _ => none
      | _ => none) else none
    | none => none
  | _, _ => none
end defs

theorem replicate_get {α : Type} (l : List α) : ∀ (n i : Nat), ((List.replicate n l).flatten)[i]? = if i < n * l.length then l[i % l.length]? else none := by
  intro n
  induction n with
  | zero => intro i; simp
  | succ n ih =>
    intro i
    rw [List.replicate_succ, List.flatten_cons, List.getElem?_append]
    by_cases h : i < l.length
    · rw [if_pos h, if_pos (by rw [Nat.succ_mul]; omega), Nat.mod_eq_of_lt h]
    · rw [if_neg h, ih]
      have hm : i % l.length = (i - l.length) % l.length := by rw [Nat.mod_eq_sub_mod (by omega)]
      by_cases h2 : i - l.length < n * l.length
      · rw [if_pos h2, if_pos (by rw [Nat.succ_mul]; omega), hm]
      · rw [if_neg h2, if_neg (by rw [Nat.succ_mul]; omega)]

theorem made_zeros (z : Array Value) (n : Nat) : ((Array.range (n * z.size)).map (z[· % z.size]!)).toList = (List.replicate n z.toList).flatten := by
  apply List.ext_getElem?
  intro i
  rw [replicate_get]
  simp only [Array.toList_map, Array.toList_range, List.getElem?_map, Array.length_toList]
  by_cases h : i < n * z.size
  · rw [if_pos h, List.getElem?_range h]
    have hz : 0 < z.size := by
      rcases Nat.eq_zero_or_pos z.size with e | e
      · rw [e] at h; simp at h
      · exact e
    have hlt := Nat.mod_lt i hz
    simp [hlt]
  · rw [if_neg h, List.getElem?_eq_none (by simp; omega)]; rfl

section
variable {P : Program} {T : Tbl} {ρ : Operand → Option AVal} {get : Nat → Option AObj} {a : Act} {w : World} {x : Ctx} {R : Type}

theorem All2.replicate {α β : Type} {R : α → β → Prop} {u : α} {v : β} (h : R u v) : ∀ n, All2 R (List.replicate n u) (List.replicate n v)
  | 0 => .nil
  | n + 1 => by rw [List.replicate_succ, List.replicate_succ]; exact .cons h (All2.replicate h n)

theorem buildArr_sound (es : Nat) (sh : Sh) (m : Nat) (hes : es = sh.size) : ∀ (ps : List (Nat × AVal)) (qs : List (Nat × Value)) (acc : AVal) (cells : Array Value) (k : AVal → Option R) (z : R), PartsRel x ps qs → acc.C x cells.toList → acc.sh = .arr sh m →
    buildArrK es acc ps k = some z → ∃ acc' cells', Instr.fill (fun i => some (i * es, es)) cells qs = some cells' ∧ acc'.C x cells'.toList ∧ acc'.sh = .arr sh m ∧ k acc' = some z := by
  intro ps
  induction ps with
  | nil => intro qs acc cells k z hr hc hs hk; rw [hr.nil_inv]; unfold buildArrK at hk; exact ⟨acc, cells, rfl, hc, hs, hk⟩
  | cons p ps ih =>
    intro qs acc cells k z hr hc hacc hk
    obtain ⟨q, qs, rfl, ⟨hj, hv⟩, hr2⟩ := hr.cons_inv
    obtain ⟨j, u⟩ := p
    obtain ⟨j', v⟩ := q
    simp only at hj hv
    subst hj
    unfold buildArrK at hk
    obtain ⟨hc3, hk⟩ := cond_some hk
    rw [Bool.and_eq_true] at hc3
    have h3 := Nat.eq_of_beq_eq_true hc3.1
    obtain ⟨hC, _, _⟩ := V_inv hc3.2 hv
    obtain ⟨acc', hset, hk'⟩ := setK_inv _ _ _ _ _ hk
    obtain ⟨hsh', o', hat, pre, mid, post, e1, hp, hm, hC'⟩ := setK_sound _ acc u acc' _ hc hset _ hC
    rw [hacc] at hat
    simp only [Sh.at, Option.some.injEq, Prod.mk.injEq] at hat
    have hl := AVal.C.length _ _ hC
    have hfs2 := fill_step e1 hp hm
    obtain ⟨acc'', cells'', g1, g2, g3⟩ := ih qs acc' _ k z hr2 (by rw [hfs2]; exact hC') (hsh'.trans hacc) hk'
    refine ⟨acc'', cells'', ?_, g2, g3⟩
    have hsz : v.cells.size = u.sh.size := by rw [← hl]; simp
    have hlen : cells.size = pre.length + mid.length + post.length := by rw [← Array.length_toList, e1]; simp; omega
    have ho2 : o' = j * es := by rw [← hat.2, hes]; omega
    unfold Instr.fill
    simp only
    rw [if_neg (by
      simp only [ne_eq, Bool.or_eq_true, decide_eq_true_eq, not_or, Decidable.not_not, Nat.not_lt]
      refine ⟨by rw [hsz, h3], ?_⟩
      rw [hlen, hm, hp, ho2]; simp)]
    rw [← ho2]
    exact g1

/-- A new row of elements, at object base. -/
theorem slc_made {base : Nat} {τ : Ty} {ys : List τ.den} {cells : Array Value} {e : TypeId} (h0 : x.σ[base]? = some .free) (hh : x.h = fun b => w.heap[b]?) (M : Mem x) {css : List (List Value)} {post : List Value} (hcells : cells.toList = css.flatten ++ post) (A : All2 (τ.Rel x.h (x.S true)) ys css)
    {cap : Nat} (hcap : ys.length ≤ cap) (hroom : cap * τ.size ≤ cells.size) (n : Nat) :
    Goes x w (x.made w.heap.size (.cells cells e (0, 0)) base (.arr 0 τ ys)) (({ w with drawn := n }).alloc (.cells cells e (0, 0))) ∧
    (AVal.slc base 0).V (x.made w.heap.size (.cells cells e (0, 0)) base (.arr 0 τ ys)) (.slice (some ⟨w.heap.size, 0, none⟩) ys.length cap) := by
  have G := goes_made (w := { w with drawn := n }) (ob := .arr 0 τ ys) M hh h0 (.cells cells e (0, 0)) (fun hs hk => .inr ⟨w.heap.size, 0, cells, e, css, if_pos rfl, if_pos rfl, A.mono fun _ _ h => h.congr (hs true), [], post, by simpa using hcells, rfl⟩)
  refine ⟨(Goes.drew M hh n).trans G, show (AVal.slc base 0).C _ _ from ⟨_, rfl, rfl, ?_⟩⟩
  unfold SlcRel
  rw [made_obj h0, if_pos rfl]
  refine ⟨Nat.le_refl _, fun _ => ?_⟩
  have : (x.made w.heap.size (.cells cells e (0, 0)) base (.arr 0 τ ys)).μ base = some ⟨w.heap.size, 0, none⟩ := if_pos rfl
  simp only [this]
  refine ⟨cap, rfl, hcap, ?_⟩
  intro c e' fr h
  have h2 := (show (if w.heap.size = w.heap.size then some (Obj.cells cells e (0, 0)) else x.h w.heap.size) = _ from h)
  rw [if_pos rfl] at h2; cases h2
  simpa using hroom

theorem V_of_C' {x : Ctx} {v v' : AVal} (ha : v'.agg = v.agg) (hC : ∀ cs, v.C x cs → v'.C x cs) {u : Value} (h : v.V x u) : v'.V x u := by
  unfold AVal.V at *
  rw [ha]
  by_cases hv : v.agg = true
  · rw [if_pos hv] at h ⊢; obtain ⟨c, e, h⟩ := h; exact ⟨c, e, hC _ h⟩
  · rw [if_neg hv] at h ⊢; exact hC _ h

theorem toDat_C : ∀ (t : Ty) (v : AVal) (d : t.den) (cs : List Value), toDat t v = some d → v.C x cs → t.Rel x.h (x.S true) d cs := by
  intro t
  have hdat : ∀ (t : Ty) (q : Bool) (t' : Ty) (d' : t'.den) (d : t.den) (cs : List Value), (bif q || t'.plain then (if h : t' = t then some (h ▸ d') else none) else none) = some d → (AVal.dat q t' d').C x cs → t.Rel x.h (x.S true) d cs := by
    intro t q t' d' d cs h hC
    obtain ⟨hq, h⟩ := cond_some h
    split at h
    · rename_i ht; subst ht; cases h
      rcases Bool.or_eq_true_iff.1 hq with hq | hq
      · subst hq; exact hC
      · exact Ty.Rel.ofPlain _ _ _ hq hC
    · cases h
  induction t with
  | slice t ih =>
    intro v d cs h hC
    cases v with
    | dat q t' d' => exact hdat _ q t' d' d cs h hC
    | nils =>
      obtain rfl : ([] : List t.den) = d := by simpa [toDat] using h
      obtain ⟨b, rfl⟩ := hC
      exact ⟨b, 0, 0, rfl, rfl, Nat.le_refl _, fun _ => rfl, fun h => absurd h (Nat.lt_irrefl _)⟩
    | _ => simp only [toDat] at h; cases h
  | pair ta tb iha ihb =>
    intro v d cs h hC
    cases v with
    | dat q t' d' => exact hdat _ q t' d' d cs h hC
    | pair u v =>
      simp only [toDat] at h
      split at h
      · rename_i d e h1 h2
        cases h
        obtain ⟨c1, c2, rfl, k1, k2⟩ := hC
        exact ⟨c1, c2, rfl, iha _ _ _ h1 k1, ihb _ _ _ h2 k2⟩
      · cases h
    | _ => simp only [toDat] at h; cases h
  | one ta iha =>
    intro v d cs h hC
    cases v with
    | dat q t' d' => exact hdat _ q t' d' d cs h hC
    | one u => exact iha _ _ _ (show toDat ta u = some d from h) hC
    | _ => simp only [toDat] at h; cases h
  | int kd | bool | str | unit | arr n ta ih =>
    intro v d cs h hC
    cases v with
    | dat q t' d' => exact hdat _ q t' d' d cs h hC
    | _ => simp only [toDat] at h; cases h

theorem toDat_agg : ∀ (t : Ty) (v : AVal) (d : t.den), toDat t v = some d → v.agg = t.agg := by
  intro t v d h
  have hdat : ∀ (q : Bool) (t' : Ty) (d' : t'.den), (bif q || t'.plain then (if h : t' = t then some (h ▸ d') else none) else none) = some d → t'.agg = t.agg := by
    intro q t' d' h
    obtain ⟨_, h⟩ := cond_some h
    split at h
    · rename_i ht; subst ht; rfl
    · cases h
  cases v with
  | dat q t' d' => exact hdat q t' d' (by cases t <;> exact h)
  | nils => cases t <;> simp only [toDat] at h <;> first | rfl | cases h
  | pair a b => cases t <;> simp only [toDat] at h <;> first | rfl | cases h
  | one a => cases t <;> simp only [toDat] at h <;> first | rfl | cases h
  | _ => cases t <;> simp only [toDat] at h <;> cases h

theorem toDat_V {t : Ty} {v : AVal} {d : t.den} {u : Value} (h : toDat t v = some d) (hv : v.V x u) : (AVal.dat true t d).V x u :=
  V_of_C' (v := v) (v' := .dat true t d) (toDat_agg t v d h).symm (fun cs hc => toDat_C t v d cs h hc) hv

theorem datParts_rel {τ : Ty} : ∀ (ps ps' : List (Nat × AVal)) (qs : List (Nat × Value)), datParts τ ps = some ps' → PartsRel x ps qs → PartsRel x ps' qs := by
  intro ps
  induction ps with
  | nil => intro ps' qs h hr; simp only [datParts, Option.some.injEq] at h; subst h; exact hr
  | cons p ps ih =>
    intro ps' qs h hr
    obtain ⟨j, u⟩ := p
    simp only [datParts] at h
    split at h
    · rename_i d m h1 h2
      cases h
      obtain ⟨q, qs, rfl, hq, hr⟩ := All2.cons_inv hr
      exact All2.cons ⟨hq.1, toDat_V h1 hq.2⟩ (ih m qs h2 hr)
    · cases h

theorem actBuildSlice_ok (H : Meets P T ρ get a w x) {o : Oper} {t : TypeId} {len base : Nat} {parts : Array (Nat × Operand)} (ho : o.op = .buildSlice t len parts) {ps : List (Nat × AVal)} (hps : parts.toList.mapM (fun p => (ρ p.2).map fun v => (p.1, v)) = some ps)
    {k : AVal → Ups → Option R} {z : R} (hk : actBuildSlice T get base t len ps k = some z) : ∃ u ups, k u ups = some z ∧ ActOk P o a w x u ups := by
  have hpr0 := parts_eval H.val _ _ hps
  unfold actBuildSlice at hk
  split at hk
  case h_2 => cases hk
  rename_i e hu
  have hb := undOf_ok H.tbl hu (by simp)
  split at hk
  case h_2 => cases hk
  rename_i ed τ hed hτ
  split at hk
  case h_2 => cases hk
  rename_i z0 dps hz0 hdp hg
  have hpr := datParts_rel _ _ _ hdp hpr0
  obtain ⟨hc, hk⟩ := cond_some hk
  rw [Bool.and_eq_true, Bool.and_eq_true, Bool.and_eq_true] at hc
  obtain ⟨hc, hzf⟩ := hc
  have hsz := Nat.eq_of_beq_eq_true hc.1.1
  have hag : ed.und.agg = τ.agg := beq_iff_eq.1 hc.1.2
  obtain ⟨zv, hz, hzv⟩ := (H.tbl e ed hed).zeroValue (w := w)
  have hzv := hzv x
  obtain ⟨hC, _, _⟩ := V_inv hzf hzv
  have hrel : τ.Rel x.h (x.S true) z0 zv.cells.toList := toDat_C τ _ _ _ hz0 hC
  have hzl : zv.cells.size = τ.size := by rw [← Array.length_toList]; exact Ty.Rel.length _ _ _ hrel
  have hcells : ((Array.range (len * ed.size)).map (zv.cells[· % zv.cells.size]!)).toList = (List.replicate len zv.cells.toList).flatten := by
    rw [hsz, ← hzl]; exact made_zeros _ _
  have hacc : (AVal.dat true (.arr len τ) (List.replicate len z0)).C x ((Array.range (len * ed.size)).map (zv.cells[· % zv.cells.size]!)).toList := by
    rw [hcells]; exact ⟨by simp, _, rfl, All2.replicate hrel len⟩
  obtain ⟨acc', cells', g1, g2, g3, g4⟩ := buildArr_sound ed.size τ.sh len (by rw [hsz, Ty.sh_size]) dps _ _ _ _ z hpr hacc rfl hk
  split at g4
  case h_2 => cases g4
  rename_i n τ' ys
  obtain ⟨hc2, g4⟩ := cond_some g4
  rw [Bool.and_eq_true] at hc2
  have hn := Nat.eq_of_beq_eq_true hc2.1
  have ht' := Nat.eq_of_beq_eq_true hc2.2
  obtain ⟨hyl, css, hcs, A⟩ := g2
  have hcl : cells'.size = len * ed.size := by rw [← Array.length_toList, hcs, flatten_length A.lengths, ← A.1, hyl, hn, ht']
  obtain ⟨G, V⟩ := slc_made (e := e) (cells := cells') (cap := len) (H.obj base _ hg) H.h H.mem (css := css) (post := []) (by simpa using hcs) A (by omega) (by rw [ht', hcl]; exact Nat.le_refl _) w.drawn
  refine ⟨_, _, g4, fun next Q hnext => ?_⟩
  unfold Oper.wp
  have hmap : (parts.map fun p => (p.1, a.eval p.2)).toList = parts.toList.map fun p => (p.1, a.eval p.2) := by simp
  have hle : ¬ (len * ed.size > 2 ^ 24) := by have := Nat.le_of_ble_eq_true hc.2; omega
  have hrun : (execOp a.eval o).run P w = .ok (.value (.slice (some ⟨w.heap.size, 0, none⟩) len len)) (w.alloc (.cells cells' e (0, 0))) := by
    simp only [execOp, ho, Instr.buildSlice, Sem.run_bind, run_underlying (show P.underlying t = _ from hb), Result.andThen_ok, (H.tbl _ _ hed).sizeOf]
    rw [if_neg hle, hmap]
    have e0 : ∀ (f : Nat → Value), Array.map f (Array.range 0) = #[] := fun f => by simp [Array.range]
    by_cases h0 : len * ed.size = 0
    · have g1' : Instr.fill (fun i => some (i * ed.size, ed.size)) #[] (parts.toList.map fun p => (p.1, a.eval p.2)) = some cells' := by rw [← g1, h0, e0]
      simp only [h0, if_true, Sem.run_bind, Sem.run_pure, Result.andThen_ok, e0, g1']
      rfl
    · simp only [h0, if_false, Sem.run_bind, Sem.run_pure, Result.andThen_ok, hz, g1]
      rfl
  rw [hrun, Oper.upon_value]
  have hyy : ys.length = len := by rw [hyl, hn]
  rw [hyy] at V
  exact hnext _ _ _ G rfl V
end
end Go.Am
