/- The abstract machine: parts of slices; slices that are made. -/
import Derived.Test.YtiecnmmffplgcaaAmLA
import Derived.Laws.MakeOwn
namespace Go.Am

section defs
variable {R : Type} (T : Tbl)

/-- A slice's bounds: from, to, and how far at most. -/
def boundsK (len top : Nat) (l h m : Option AVal) (k : Nat → Nat → Option Nat → Option R) : Option R :=
  match m with
  | none => boundK h len top fun hh => boundK l 0 hh fun ll => k ll hh none
  | some m => match h with
    | none => none
    | some h => boundK (some m) 0 top fun mm => boundK (some h) 0 mm fun hh => boundK l 0 hh fun ll => k ll hh (some mm)

/-- mode 1: the slice itself is cut; else a part of it is told. -/
def actSlice (get : Nat → Option AObj) (mode : Nat) (t : TypeId) (v : AVal) (l h m : Option AVal) (k : AVal → Ups → Option R) : Option R :=
  match undOf T t with
  | .slice e => match T e with
    | some ed => match v with
      | .slc r g => match get r with
        | some (.arr g' τ xs) => bif Nat.beq g g' && Nat.beq ed.size τ.size then
            boundsK xs.length xs.length l h m fun ll hh mo => match mo with
              | none => bif Nat.beq mode 1 then k (.slc r (g' + 1)) [(r, .arr (g' + 1) τ ((xs.take hh).drop ll))] else k (.sub r g ll (hh - ll) false) []
              | some mm => if hh = mm then k (.sub r g ll (hh - ll) true) [] else none
            else none
        | _ => none
      | .sub r g lo len false => match get r with
        | some (.arr g' τ xs) => bif Nat.beq g g' && Nat.beq ed.size τ.size then
            boundsK len (xs.length - lo) l h m fun ll hh mo => match mo with
              | none => bif Nat.beq mode 1 then none else k (.sub r g (lo + ll) (hh - ll) false) []
              | some mm => if hh = mm then k (.sub r g (lo + ll) (hh - ll) true) [] else none
            else none
        | _ => none
      | .dat own (.slice τ) xs => bif Nat.beq ed.size τ.size then
          boundsK xs.length xs.length l h m fun ll hh mo => match mo with
            | none => k (.dat own (.slice τ) ((xs.take hh).drop ll)) []
            | some mm => if mm = ll then k .nils [] else none
          else none
      | .nils => boundsK 0 0 l h m fun _ _ _ => k .nils []
      | _ => none
    | none => none
  | .str => match m with
    | none => actSliceStr T t v l h fun u => k u []
    | some _ => none
  | _ => none

def actMakeSlice (get : Nat → Option AObj) (base : Nat) (t : TypeId) (n c : AVal) (k : AVal → Ups → Option R) : Option R :=
  match undOf T t with
  | .slice e => match T e, tyOf T 12 e with
    | some ed, some τ => bif Nat.ble 1 ed.bytes && ed.zero.flat && Nat.beq ed.zero.sh.size ed.size && Nat.beq ed.size τ.size && (ed.zero.agg == τ.agg) then
        (match toDat τ ed.zero, get base, n, c with
          | some z, some .free, .dat _ (.int _) n, .dat _ (.int _) c => if 0 ≤ n ∧ n ≤ c ∧ c * ed.bytes ≤ 140737488355328 then k (.slc base 0) [(base, .arr 0 τ (List.replicate n.toNat z))] else none
          | _, _, _, _ => none) else none
    | _, _ => none
  | _ => none
end defs

section
variable {P : Program} {T : Tbl} {ρ : Operand → Option AVal} {get : Nat → Option AObj} {a : Act} {w : World} {x : Ctx} {R : Type}

theorem bound_nat {i : Int} {y : Nat} (h1 : 0 ≤ i) (h2 : i ≤ (y : Int)) : i.toNat ≤ y := by omega
theorem bound_up {i : Int} {y y' : Nat} (h1 : 0 ≤ i) (h2 : i ≤ (y : Int)) (h : y ≤ y') : 0 ≤ i ∧ i ≤ (y' : Int) := by omega

theorem boundK_le {o : Option Operand} {v : Option AVal} (hv : optV x a o v) {d y : Nat} {k : Nat → Option R} {z : R} (hk : boundK v d y k = some z) :
    ∃ n, k n = some z ∧ (n = d ∨ n ≤ y) ∧ ((o = none ∧ n = d) ∨ ∃ o', o = some o' ∧ n ≤ y ∧ ∀ (code : BoundsCode) (y' : Nat), y ≤ y' → (Instr.sliceBound (a.eval o') y' code).run P w = .ok n w) := by
  unfold boundK at hk
  split at hk
  · cases o with
    | none => exact ⟨d, hk, .inl rfl, .inl ⟨rfl, rfl⟩⟩
    | some o => cases hv
  · rename_i p kd i
    cases o with
    | none => cases hv
    | some o =>
      split at hk
      · rename_i hi
        obtain ⟨hi1, hi2⟩ := hi
        refine ⟨i.toNat, hk, .inr (bound_nat hi1 hi2), .inr ⟨o, rfl, bound_nat hi1 hi2, fun code y' hy => ?_⟩⟩
        have hu := V_int.1 hv
        have hi' : 0 ≤ i ∧ i ≤ (y' : Int) := bound_up hi1 hi2 hy
        simp only [Instr.sliceBound, hu, asIntOf, Sem.run_bind, Sem.run_pure, Result.andThen_ok, if_pos hi']
      · cases hk
  · cases hk

theorem boundsK_ok {lo hi mx : Option Operand} {l h m : Option AVal} (hl : optV x a lo l) (hh : optV x a hi h) (hm : optV x a mx m) {len top cap : Nat} (hlen : len ≤ top) (htop : top ≤ cap) {k : Nat → Nat → Option Nat → Option R} {z : R}
    (hk : boundsK len top l h m k = some z) : ∃ ll hh mo, k ll hh mo = some z ∧ ll ≤ hh ∧ hh ≤ top ∧ (∀ mm, mo = some mm → hh ≤ mm ∧ mm ≤ top) ∧
      (Instr.sliceBounds true len cap (lo.map a.eval) (hi.map a.eval) (mx.map a.eval)).run P w = .ok (ll, hh, mo.getD cap) w := by
  unfold boundsK at hk
  cases m with
  | none =>
    cases mx with
    | some _ => cases hm
    | none =>
      simp only at hk
      obtain ⟨hn, hk1, b1, r1⟩ := boundK_le (P := P) (w := w) hh hk
      obtain ⟨ln, hk2, b2, r2⟩ := boundK_le (P := P) (w := w) hl hk1
      refine ⟨ln, hn, none, hk2, by omega, by omega, (fun mm h => by cases h), ?_⟩
      rcases r1 with ⟨rfl, rfl⟩ | ⟨hi', rfl, c1, r1⟩ <;> rcases r2 with ⟨rfl, rfl⟩ | ⟨lo', rfl, c2, r2⟩
      · simp [Instr.sliceBounds]
      · have e2 := r2 .sliceB _ (Nat.le_refl _)
        simp [Instr.sliceBounds, e2]
      · have e1 := r1 .sliceAcap _ htop
        simp [Instr.sliceBounds, e1]
      · have e1 := r1 .sliceAcap _ htop
        have e2 := r2 .sliceB _ (Nat.le_refl _)
        simp [Instr.sliceBounds, e1, e2]
  | some m =>
    cases mx with
    | none => cases hm
    | some mx =>
      cases h with
      | none => cases hk
      | some h =>
        cases hi with
        | none => cases hh
        | some hi =>
          simp only at hk
          obtain ⟨mm, hk0, b0, r0⟩ := boundK_le (P := P) (w := w) (o := some mx) (v := some m) hm hk
          obtain ⟨hn, hk1, b1, r1⟩ := boundK_le (P := P) (w := w) (o := some hi) (v := some h) hh hk0
          obtain ⟨ln, hk2, b2, r2⟩ := boundK_le (P := P) (w := w) hl hk1
          rcases r0 with ⟨h0, _⟩ | ⟨mx', h0, c0, r0⟩
          · cases h0
          cases h0
          rcases r1 with ⟨h0, _⟩ | ⟨hi', h0, c1, r1⟩
          · cases h0
          cases h0
          refine ⟨ln, hn, some mm, hk2, by omega, by omega, (fun mm' h => by cases h; exact ⟨c1, c0⟩), ?_⟩
          have e0 := r0 .slice3Acap _ htop
          have e1 := r1 .slice3B _ (Nat.le_refl _)
          rcases r2 with ⟨rfl, rfl⟩ | ⟨lo', rfl, c2, r2⟩
          · simp [Instr.sliceBounds, e0, e1]
          · have e2 := r2 .slice3C _ (Nat.le_refl _)
            simp [Instr.sliceBounds, e0, e1, e2]

theorem run_slice_of {t e : TypeId} (ht : P.underlying t = some (.slice e)) {size : Nat} (hs : (sizeOf e).run P w = .ok size w) {o : Oper} {xo : Operand} {lo hi mx : Option Operand} (ho : o.op = .slice t xo lo hi mx)
    {base : Option Addr} {len cap ll hh mm : Nat} (hv : a.eval xo = .slice base len cap) (hbd : (Instr.sliceBounds true len cap (lo.map a.eval) (hi.map a.eval) (mx.map a.eval)).run P w = .ok (ll, hh, mm) w) :
    (execOp a.eval o).run P w = .ok (.value (.slice (if mm = ll then base else base.map (·.add (ll * size))) (hh - ll) (mm - ll))) w := by
  have h1 : (underlying t).run P w = .ok (.slice e) w := run_underlying ht w
  simp [execOp, ho, hv, Instr.sliceAt, Instr.slice, h1, hbd, hs]

theorem addr_add_zero (b : Addr) : b.add 0 = b := by simp [Addr.add]

theorem actSlice_ok (H : Meets P T ρ get a w x) {o : Oper} {mode : Nat} {t : TypeId} {xo : Operand} {lo hi mx : Option Operand} (ho : o.op = .slice t xo lo hi mx)
    {v : AVal} {l h m : Option AVal} (hv : v.V x (a.eval xo)) (hl : optV x a lo l) (hh : optV x a hi h) (hm : optV x a mx m) {k : AVal → Ups → Option R} {z : R} (hk : actSlice T get mode t v l h m k = some z) : ∃ u ups, k u ups = some z ∧ ActOk P o a w x u ups := by
  unfold actSlice at hk
  split at hk
  · rename_i e hu
    have ht : P.underlying t = some (.slice e) := undOf_ok H.tbl hu (by simp)
    split at hk
    case h_2 => cases hk
    rename_i ed hed
    have hsz := (H.tbl e ed hed).sizeOf (w := w)
    have run := fun (base : Option Addr) (len cap ll hh mm : Nat) (hv : a.eval xo = .slice base len cap) (hb : (Instr.sliceBounds true len cap (lo.map a.eval) (hi.map a.eval) (mx.map a.eval)).run P w = .ok (ll, hh, mm) w) =>
      run_slice_of ht hsz ho hv hb
    split at hk
    · -- a slice of the call's own
      rename_i r g
      split at hk
      case h_2 => cases hk
      rename_i g' τ xs hg
      obtain ⟨hc, hk⟩ := cond_some hk
      rw [Bool.and_eq_true] at hc
      have hgg := Nat.eq_of_beq_eq_true hc.1
      have hes := Nat.eq_of_beq_eq_true hc.2
      have h0 := H.obj r _ hg
      have hobj := obj_of_get h0
      obtain ⟨c0, hc0, _, hr⟩ := (show (AVal.slc r g).C x [a.eval xo] from hv)
      simp only [List.cons.injEq, and_true] at hc0
      unfold SlcRel at hr
      rw [hobj] at hr
      obtain ⟨hgle, hr⟩ := hr
      have hr := hr hgg
      have hrel := H.mem.objs r
      rw [hobj] at hrel
      -- the value, however it lies
      obtain ⟨base, cap, e1, e2, e3, e4⟩ : ∃ base cap, a.eval xo = .slice base xs.length cap ∧ xs.length ≤ cap ∧ (base = none → cap = 0) ∧ (∀ b, base = some b → 0 < cap → x.μ r = some b) := by
        rcases hrel with ⟨h1, h2⟩ | ⟨blk, off, c, et, css, h1, _⟩
        · simp only [h1] at hr
          obtain ⟨b, hb⟩ := hr
          exact ⟨b, 0, by rw [hc0, hb, h2]; rfl, by rw [h2]; exact Nat.le_refl _, fun _ => rfl, fun _ _ h => absurd h (Nat.lt_irrefl _)⟩
        · simp only [h1] at hr
          obtain ⟨cap, f1, f2, f3⟩ := hr
          exact ⟨_, cap, by rw [hc0, f1], f2, (fun h => by cases h), fun b h _ => by cases h; exact h1⟩
      obtain ⟨ll, hh', mo, hk2, g1, g2, g3, g4⟩ := boundsK_ok (P := P) (w := w) hl hh hm (Nat.le_refl _) e2 hk
      have hrun := run _ _ _ _ _ _ e1 g4
      have sub : ∀ (ex : Bool), (ex = true → mo = some hh') → (ex = false → mo = none) → ActOk P o a w x (.sub r g ll (hh' - ll) ex) [] := by
        intro ex x1 x2
        refine ActOk.value H.mem H.h hrun (show (AVal.sub r g ll (hh' - ll) ex).C x _ from ⟨_, rfl, rfl, ?_⟩)
        unfold SubRel
        rw [hobj]
        have hcap : hh' ≤ mo.getD cap := by
          cases mo with
          | none => simp only [Option.getD_none]; omega
          | some mm => simp only [Option.getD_some]; exact (g3 mm rfl).1
        have hcap2 : mo.getD cap ≤ cap := by
          cases mo with
          | none => simp only [Option.getD_none]; omega
          | some mm => simp only [Option.getD_some]; have := (g3 mm rfl).2; omega
        refine ⟨hgle, fun _ => ⟨by omega, _, _, rfl, by omega, fun h => by rw [x1 h]; rfl, fun h => by rw [x2 h]; simp only [Option.getD_none]; omega, fun h => ?_, fun b hb hp => ?_⟩⟩
        · split at h
          · omega
          · cases base with
            | none => have := e3 rfl; omega
            | some b => cases h
        · rw [if_neg (by omega)] at hb
          cases base with
          | none => cases hb
          | some b0 =>
            simp only [Option.map_some, Option.some.injEq] at hb
            exact ⟨b0, e4 b0 rfl (by omega), by rw [← hb, hes]⟩
      cases mo with
      | some mm =>
        simp only at hk2
        split at hk2
        · rename_i hmm
          subst hmm
          exact ⟨_, _, hk2, sub true (fun _ => rfl) (fun h => by cases h)⟩
        · cases hk2
      | none =>
        simp only at hk2
        cases hmode : Nat.beq mode 1 with
        | false =>
          rw [hmode] at hk2
          exact ⟨_, _, hk2, sub false (fun h => by cases h) (fun _ => rfl)⟩
        | true =>
          rw [hmode] at hk2
          simp only [cond_true] at hk2
          refine ⟨_, _, hk2, fun next Q hnext => ?_⟩
          unfold Oper.wp
          rw [hrun, Oper.upon_value]
          simp only [Option.getD_none]
          rcases hrel with ⟨h1, h2⟩ | ⟨blk, off, c, et, css, h1, h2, A, pre, post, h4, h5⟩
          · subst h2
            simp only [h1] at hr
            obtain ⟨b, hb⟩ := hr
            rw [hc0] at e1
            rw [hb] at e1
            simp only [List.length_nil, Value.slice.injEq, true_and] at e1
            obtain ⟨rfl, rfl⟩ := e1
            obtain ⟨G, V⟩ := goes_bare (g' := g') H.mem H.h h0 h1
            simp only [List.length_nil] at g2
            have z1 : hh' = 0 := by omega
            have z2 : ll = 0 := by omega
            subst z1; subst z2
            exact hnext _ _ _ G (by rw [applyUps_one]; simp) (V b)
          · simp only [h1] at hr
            obtain ⟨cap', f1, f2, f3⟩ := hr
            rw [hc0, f1] at e1
            simp only [Value.slice.injEq, true_and] at e1
            obtain ⟨rfl, rfl⟩ := e1
            have hroom := f3 c et (0, 0) h2
            simp only at hroom
            have hw : ∀ b, w.heap[b]? = if b = blk then some (Obj.cells c et (0, 0)) else w.heap[b]? := by
              intro b; by_cases hbb : b = blk
              · subst hbb; rw [if_pos rfl]; exact heap_at H h2
              · rw [if_neg hbb]
            by_cases hz : cap' = ll
            · have hx0 : (xs.take hh').drop ll = [] := List.drop_eq_nil_of_le (by rw [List.length_take]; omega)
              rw [if_pos hz]
              obtain ⟨G, V⟩ := goes_moved (w' := w) (zs := []) H.mem H.h h0 (blk := blk) (off := off) (c' := c) (e := et) (.inl ⟨off, h1⟩) hw rfl rfl rfl (Nat.le_refl _) (css := []) (pre := pre) (post := css.flatten ++ post) (by rw [h4]; simp) h5 All2.nil
              have V := V 0 (Nat.le_refl _) (by rw [Nat.zero_mul]; omega)
              rw [show hh' - ll = 0 by omega, show cap' - ll = 0 by omega]
              exact hnext _ _ _ G (by rw [applyUps_one, hx0]; rfl) V
            · rw [if_neg hz]
              have hA : All2 (τ.Rel x.h (x.S true)) ((xs.take hh').drop ll) ((css.take hh').drop ll) := drop_all2 (take_take_all2 A hh') ll
              have hsplit : css.flatten = (css.take ll).flatten ++ ((css.take hh').drop ll).flatten ++ (css.drop hh').flatten := by
                have e5 : css.take ll = (css.take hh').take ll := by rw [List.take_take, Nat.min_eq_left g1]
                rw [e5, ← List.flatten_append, List.take_append_drop, ← List.flatten_append, List.take_append_drop]
              have hpl : (css.take ll).flatten.length = ll * τ.size := by
                rw [flatten_length (n := τ.size) (fun d hd => A.lengths d (List.mem_of_mem_take hd)), List.length_take, ← A.1, Nat.min_eq_left (by omega)]
              obtain ⟨G, V⟩ := goes_moved (w' := w) (zs := (xs.take hh').drop ll) H.mem H.h h0 (blk := blk) (off := off + ll * τ.size) (c' := c) (e := et) (.inl ⟨off, h1⟩) hw rfl rfl rfl (Nat.le_refl _) (css := (css.take hh').drop ll) (pre := pre ++ (css.take ll).flatten) (post := (css.drop hh').flatten ++ post)
                (by rw [h4, hsplit]; simp [List.append_assoc]) (by rw [List.length_append, h5, hpl]) hA
              have hzl : ((xs.take hh').drop ll).length = hh' - ll := by rw [List.length_drop, List.length_take]; omega
              have V := V (cap' - ll) (by rw [hzl]; omega) (by
                have e6 : cap' * τ.size = ll * τ.size + (cap' - ll) * τ.size := by rw [← Nat.add_mul]; congr 1; omega
                omega)
              rw [hzl] at V
              simp only [Option.map_some, add_mk, hes]
              exact hnext _ _ _ G applyUps_one V
    · -- a part of a slice
      rename_i r g lo0 len
      split at hk
      case h_2 => cases hk
      rename_i g' τ xs hg
      obtain ⟨hc, hk⟩ := cond_some hk
      rw [Bool.and_eq_true] at hc
      have hgg := Nat.eq_of_beq_eq_true hc.1
      have hes := Nat.eq_of_beq_eq_true hc.2
      have h0 := H.obj r _ hg
      have hobj := obj_of_get h0
      obtain ⟨c0, hc0, _, hr⟩ := (show (AVal.sub r g lo0 len false).C x [a.eval xo] from hv)
      simp only [List.cons.injEq, and_true] at hc0
      unfold SubRel at hr
      rw [hobj] at hr
      obtain ⟨hgle, hr⟩ := hr
      obtain ⟨hle, base, cap, e1, e2, _, e2', e3, e4⟩ := hr hgg
      have e2' := e2' rfl
      rw [e1] at hc0
      obtain ⟨ll, hh', mo, hk2, g1, g2, g3, g4⟩ := boundsK_ok (P := P) (w := w) hl hh hm (len := len) (top := xs.length - lo0) (by omega) e2' hk
      have hrun := run _ _ _ _ _ _ hc0 g4
      have sub : ∀ (ex : Bool), (ex = true → mo = some hh') → (ex = false → mo = none) → ActOk P o a w x (.sub r g (lo0 + ll) (hh' - ll) ex) [] := by
        intro ex x1 x2
        refine ActOk.value H.mem H.h hrun (show (AVal.sub r g (lo0 + ll) (hh' - ll) ex).C x _ from ⟨_, rfl, rfl, ?_⟩)
        unfold SubRel
        rw [hobj]
        have hcap : hh' ≤ mo.getD cap := by
          cases mo with
          | none => simp only [Option.getD_none]; omega
          | some mm => simp only [Option.getD_some]; exact (g3 mm rfl).1
        have hcap2 : mo.getD cap ≤ cap := by
          cases mo with
          | none => simp only [Option.getD_none]; omega
          | some mm => simp only [Option.getD_some]; have := (g3 mm rfl).2; omega
        refine ⟨hgle, fun _ => ⟨by omega, _, _, rfl, by omega, fun h => by rw [x1 h]; rfl, fun h => by rw [x2 h]; simp only [Option.getD_none]; omega, fun h => ?_, fun b hb hp => ?_⟩⟩
        · split at h
          · omega
          · cases base with
            | none => have := e3 rfl; omega
            | some b => cases h
        · rw [if_neg (by omega)] at hb
          cases base with
          | none => cases hb
          | some b0 =>
            simp only [Option.map_some, Option.some.injEq] at hb
            obtain ⟨a0, ha0, hb0⟩ := e4 b0 rfl (by omega)
            refine ⟨a0, ha0, ?_⟩
            rw [← hb, hb0, hes]
            have hrel := H.mem.objs r
            rw [hobj] at hrel
            rcases hrel with ⟨h1, _⟩ | ⟨blk, off, c, et, css, h1, _⟩
            · rw [h1] at ha0; cases ha0
            · rw [h1] at ha0; cases ha0
              simp only [add_mk, Nat.add_mul, Nat.add_assoc]
      cases mo with
      | some mm =>
        simp only at hk2
        split at hk2
        · rename_i hmm
          subst hmm
          exact ⟨_, _, hk2, sub true (fun _ => rfl) (fun h => by cases h)⟩
        · cases hk2
      | none =>
        simp only at hk2
        cases hmode : Nat.beq mode 1 with
        | false =>
          rw [hmode] at hk2
          exact ⟨_, _, hk2, sub false (fun h => by cases h) (fun _ => rfl)⟩
        | true => rw [hmode] at hk2; cases hk2
    · -- data
      rename_i own τ xs
      obtain ⟨hc, hk⟩ := cond_some hk
      have hes := Nat.eq_of_beq_eq_true hc
      obtain ⟨base, len, cap, hu', hlen, hcap, hnil, hb⟩ := (show (Ty.slice τ).Rel x.h (x.S own) xs [a.eval xo] from hv)
      simp only [List.cons.injEq, and_true] at hu'
      obtain ⟨ll, hh', mo, hk2, g1, g2, g3, g4⟩ := boundsK_ok (P := P) (w := w) hl hh hm (len := xs.length) (top := xs.length) (cap := cap) (Nat.le_refl _) (by omega) hk
      rw [hlen] at hu'
      have hrun := run _ _ _ _ _ _ hu' g4
      cases mo with
      | some mm =>
        simp only at hk2
        split at hk2
        · rename_i hmm
          subst hmm
          have := (g3 mm rfl).1
          refine ⟨_, _, hk2, ActOk.value H.mem H.h hrun (show AVal.nils.C x _ from ⟨base, by simp only [Option.getD_some, if_true, show hh' - mm = 0 by omega, Nat.sub_self]⟩)⟩
        · cases hk2
      | none =>
        simp only at hk2
        refine ⟨_, _, hk2, ActOk.value H.mem H.h hrun (show (Ty.slice τ).Rel x.h (x.S own) _ _ from ?_)⟩
        have hzl : ((xs.take hh').drop ll).length = hh' - ll := by rw [List.length_drop, List.length_take]; omega
        refine ⟨_, _, _, rfl, hzl.symm, by simp only [Option.getD_none]; omega, fun h => ?_, fun hp => ?_⟩
        · simp only [Option.getD_none] at h ⊢
          split at h
          · omega
          · cases base with
            | none => have := hnil rfl; omega
            | some b => cases h
        · simp only [Option.getD_none]
          rw [if_neg (by omega)]
          obtain ⟨b, of, h1, h2, css, ⟨c, e', fr, h3, h4⟩, A⟩ := hb (by omega)
          rw [h1]
          refine ⟨b, of + ll * ed.size, by simp only [Option.map_some, add_mk], h2, (css.take hh').drop ll, ⟨c, e', fr, h3, fun j v hj => ?_⟩, drop_all2 (take_take_all2 A hh') ll⟩
          have hsplit : css.flatten = (css.take ll).flatten ++ (((css.take hh').drop ll).flatten ++ (css.drop hh').flatten) := by
            have e5 : css.take ll = (css.take hh').take ll := by rw [List.take_take, Nat.min_eq_left g1]
            rw [e5, ← List.append_assoc, ← List.flatten_append, List.take_append_drop, ← List.flatten_append, List.take_append_drop]
          have hpl : (css.take ll).flatten.length = ll * τ.size := by
            rw [flatten_length (n := τ.size) (fun d hd => A.lengths d (List.mem_of_mem_take hd)), List.length_take, ← A.1, Nat.min_eq_left (by omega)]
          have := h4 (ll * τ.size + j) v (by
            rw [hsplit, List.getElem?_append_right (by omega), hpl, show ll * τ.size + j - ll * τ.size = j by omega, List.getElem?_append_left (List.getElem?_eq_some_iff.1 hj).1]; exact hj)
          rw [← this, hes]; congr 1; omega
    · -- nil
      obtain ⟨b, hb⟩ := (show AVal.nils.C x [a.eval xo] from hv)
      simp only [List.cons.injEq, and_true] at hb
      obtain ⟨ll, hh', mo, hk2, g1, g2, g3, g4⟩ := boundsK_ok (P := P) (w := w) hl hh hm (len := 0) (top := 0) (Nat.le_refl _) (Nat.le_refl _) hk
      have hrun := run _ _ _ _ _ _ hb g4
      have z1 : hh' = 0 := by omega
      have z2 : ll = 0 := by omega
      have z3 : mo.getD 0 = 0 := by
        cases mo with
        | none => rfl
        | some mm => have := (g3 mm rfl).2; simp only [Option.getD_some]; omega
      subst z1; subst z2
      exact ⟨_, _, hk2, ActOk.value H.mem H.h hrun (show AVal.nils.C x _ from ⟨b, by simp [z3]⟩)⟩
    · cases hk
  · split at hk
    · cases mx with
      | some _ => cases hm
      | none => exact actSliceStr_ok H ho hv hl hh hk
    · cases hk
  · cases hk

theorem le48 : (140737488355328 : Int) ≤ 281474976710656 := by decide
theorem le63 : (140737488355328 : Int) ≤ 9223372036854775807 := by decide
theorem make_fits {c : Int} {b : Nat} (h0 : 0 ≤ c) (hb : 1 ≤ b) (h : c * (b : Int) ≤ 140737488355328) : c ≤ 140737488355328 := by
  have h1 : c * 1 ≤ c * (b : Int) := Int.mul_le_mul_of_nonneg_left (by omega) h0
  omega
theorem make_nat {n c : Int} (h0 : 0 ≤ n) (h : n ≤ c) : n.toNat + (c.toNat - n.toNat) = c.toNat ∧ n.toNat ≤ c.toNat := by omega

theorem actMakeSlice_ok (H : Meets P T ρ get a w x) {o : Oper} {base : Nat} {t : TypeId} {no co : Operand} (ho : o.op = .makeSlice t no co) {n c : AVal} (hn : n.V x (a.eval no)) (hc : c.V x (a.eval co))
    {k : AVal → Ups → Option R} {z : R} (hk : actMakeSlice T get base t n c k = some z) : ∃ u ups, k u ups = some z ∧ ActOk P o a w x u ups := by
  unfold actMakeSlice at hk
  split at hk
  case h_2 => cases hk
  rename_i e hu
  have ht : P.underlying t = some (.slice e) := undOf_ok H.tbl hu (by simp)
  split at hk
  case h_2 => cases hk
  rename_i ed τ hed hτ
  obtain ⟨hcond, hk⟩ := cond_some hk
  simp only [Bool.and_eq_true] at hcond
  obtain ⟨⟨⟨⟨c1, c2⟩, c3⟩, c4⟩, c5⟩ := hcond
  have c1 := Nat.le_of_ble_eq_true c1
  have c3 := Nat.eq_of_beq_eq_true c3
  have c4 := Nat.eq_of_beq_eq_true c4
  split at hk
  case h_2 => cases hk
  rename_i zd q1 k1 n' q2 k2 c' hzd hg hkk
  clear hkk
  split at hk
  case isFalse => cases hk
  rename_i hfit
  refine ⟨_, _, hk, ?_⟩
  have hok := H.tbl e ed hed
  obtain ⟨i, zz, hi, his, hib, hz, hzv⟩ := info_parts hok
  have h0 := H.obj base _ hg
  have hn := V_int.1 hn
  have hc := V_int.1 hc
  have hcs : zz.cells.toList.length = τ.size ∧ τ.Rel x.h (x.S true) zd zz.cells.toList := by
    obtain ⟨hC, _, _⟩ := V_inv c2 (hzv x)
    exact ⟨by rw [AVal.C.length _ _ hC, c3, c4], toDat_C τ _ _ _ hzd hC⟩
  have hcb : c' * (ed.bytes : Int) ≤ 140737488355328 := hfit.2.2
  have hn0 : (0 : Int) ≤ n' := hfit.1
  have hnc : (n' : Int) ≤ c' := hfit.2.1
  have hc63 : (c' : Int) ≤ 140737488355328 := make_fits (Int.le_trans hn0 hnc) c1 hcb
  have hrun := run_make (P := P) w t e i zz ht hi hz k1 k2 n' c' hfit.1 hfit.2.1 (by rw [hib, Int.mul_comm]; exact Int.le_trans hcb le48) (Int.le_trans hc63 le63)
  intro next Q hnext
  unfold Oper.wp
  have hex : (execOp a.eval o).run P w = .ok (.value (.slice (some ⟨w.heap.size, 0, none⟩) n'.toNat c'.toNat)) (w.alloc (.cells (madeCells zz.cells (c'.toNat * i.size)) e)) := by
    simp only [execOp, ho, hn, hc, Sem.run_bind, hrun, Result.andThen_ok, Sem.run_pure]
  rw [hex, Oper.upon_value]
  have hcells : (madeCells zz.cells (c'.toNat * i.size)).toList = (List.replicate c'.toNat zz.cells.toList).flatten := by
    unfold madeCells
    rw [his, c4, ← hcs.1, Array.length_toList]
    exact made_zeros _ _
  have hsplit : (List.replicate c'.toNat zz.cells.toList).flatten = (List.replicate n'.toNat zz.cells.toList).flatten ++ (List.replicate (c'.toNat - n'.toNat) zz.cells.toList).flatten := by
    rw [← List.flatten_append, List.replicate_append_replicate, (make_nat hn0 hnc).1]
  have hsize : (madeCells zz.cells (c'.toNat * i.size)).size = c'.toNat * τ.size := by
    rw [← Array.length_toList, hcells, flatten_length (n := τ.size) (fun d hd => by rw [List.eq_of_mem_replicate hd]; exact hcs.1), List.length_replicate]
  obtain ⟨G, V⟩ := slc_made (e := e) (ys := List.replicate n'.toNat zd) (cells := madeCells zz.cells (c'.toNat * i.size)) h0 H.h H.mem (css := List.replicate n'.toNat zz.cells.toList) (post := (List.replicate (c'.toNat - n'.toNat) zz.cells.toList).flatten)
    (by rw [hcells, hsplit]) (All2.replicate hcs.2 _) (cap := c'.toNat) (by rw [List.length_replicate]; exact (make_nat hn0 hnc).2) (by rw [hsize]; exact Nat.le_refl _) w.drawn
  rw [List.length_replicate] at V
  exact hnext _ _ _ G applyUps_one V
end
end Go.Am
