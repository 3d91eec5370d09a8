/- The abstract machine, nineteenth part: one operation, whichever it is. -/
import Derived.Test.YtiecnmmffplgcaaAmRD
namespace Go.Am

def constVal : Value → Option AVal
  | .bool b => some (.dat true .bool b)
  | .int k n => some (.dat true (.int k) n)
  | .string s => some (.dat true .str s)
  | .pointer none => some .nilp
  | .slice none 0 0 => some .nils
  | .map none => some .nilm
  | .nilFunc => some .nilf
  | .nilIface => some .nili
  | _ => none

structure AOp where
  o : Oper
  an : Ann
  /-- the slot that decides whether it is done -/
  guard : Option (Nat × Bool)

def tmpsOf (os : List Operand) : List Nat := os.filterMap fun | .tmp t => some t | _ => none

def AOp.reads (ao : AOp) : List Nat := tmpsOf ao.o.op.operands.toList ++ (match ao.guard with | some (g, _) => [g] | none => [])

def opval (reads : List Nat) (slots : Nat → Option AVal) : Operand → Option AVal
  | .tmp t => bif memB reads t then slots t else none
  | .const v => constVal v
  | .func f => some (.fn f .nil)
  | .global _ => none

def parts? (ρ : Operand → Option AVal) (ps : Array (Nat × Operand)) : Option (List (Nat × AVal)) := ps.toList.mapM fun p => (ρ p.2).map fun v => (p.1, v)

def optK {R : Type} (ρ : Operand → Option AVal) (o : Option Operand) (k : Option AVal → Option R) : Option R :=
  match o with
  | none => k none
  | some o => match ρ o with
    | some v => k (some v)
    | none => none

noncomputable def actK (R : Type) (T : Tbl) (fns : Fns) (op : Op) (an : Ann) (ρ : Operand → Option AVal) (get : Nat → Option AObj) (k : AVal → Ups → Option R) : Option R :=
  match op with
  | .move x | .assign x => match ρ x with | some v => k v [] | none => none
  | .pick c x y => match ρ c with
    | some (.dat _ .bool b) => bif b then (match ρ x with | some v => k v [] | none => none) else (match ρ y with | some v => k v [] | none => none)
    | _ => none
  | .alloc t => match T t with | some d => actAlloc get an.base d.zero k | none => none
  | .box _ x => match ρ x with | some v => actAlloc get an.base v k | none => none
  | .load t x => match ρ x with | some v => actLoad T get t v k | none => none
  | .store t x y => match ρ x, ρ y with | some u, some v => actStore T get t u v k | _, _ => none
  | .nilCheck x => match ρ x with | some v => actNilCheck get v (k v []) | none => none
  | .binOp op t x y _ => match ρ x, ρ y with | some u, some v => bif isNilC y then actNil T get op t u (fun v => k v []) else actBin T get op t u v (fun v => k v []) | _, _ => none
  | .unOp op _ x => match ρ x with | some v => actUn op v (fun v => k v []) | none => none
  | .convert s d x => match ρ x with | some v => actConv T s d v (fun v => k v []) | none => none
  | .fieldAddr t x j => match ρ x with | some v => actFieldAddr T get t v j k | none => none
  | .field t x j => match ρ x with | some v => actField T t v j (fun v => k v []) | none => none
  | .indexAddr t x i => match ρ x, ρ i with | some u, some v => actIndexAddr T get t u v (fun v => k v []) | _, _ => none
  | .index t x i => match ρ x, ρ i with | some u, some v => actIndex T t u v (fun v => k v []) | _, _ => none
  | .build t ps => match parts? ρ ps with
    | some qs => bif (match undOf T t with | .struct fs => fs.all (fun f => (T f.2).isSome) | _ => true) then actBuild T t qs (fun v => k v []) else none
    | none => none
  | .buildSlice t n ps => match parts? ρ ps with | some qs => actBuildSlice T get an.base t n qs k | none => none
  | .extract x j => match ρ x with | some v => actExtract v j (fun v => k v []) | none => none
  | .call { callee := .builtin .len, args := ⟨[vo]⟩, argTypes := ats } => match ρ vo, ats[0]? with | some v, some t => actLen T get t v (fun v => k v []) | _, _ => none
  | .call { callee := .builtin .min, args := ⟨[xo, yo]⟩, .. } => match ρ xo, ρ yo with | some u, some v => actMin u v (fun v => k v []) | _, _ => none
  | .call { callee := .builtin .max, args := ⟨[xo, yo]⟩, .. } => match ρ xo, ρ yo with | some u, some v => actMax u v (fun v => k v []) | _, _ => none
  | .call { callee := .builtin .append, args := ⟨[so, vo]⟩, argTypes := ⟨[t, tx]⟩ } => match ρ so, ρ vo with | some u, some v => actAppend T get an.base t tx u v k | _, _ => none
  | .slice t xo lo hi mx => match ρ xo with | some v => optK ρ lo fun l => optK ρ hi fun h => optK ρ mx fun m => actSlice T get an.mode t v l h m k | none => none
  | .makeMap t none => actMakeMap T get an.base t k
  | .range t xo => match ρ xo with | some v => actRange T get an.base t v k | none => none
  | .entry xo => match ρ xo with | some v => actEntry get v k | none => none
  | .lookup t xo io ok => match ρ xo, ρ io with | some u, some v => actLookup T get t u v ok k | _, _ => none
  | .mapUpdate t xo io yo => match ρ xo, ρ io with | some u, some v => (match ρ yo with | some y => actMapUpdate T get t u v y k | none => none) | _, _ => none
  | .mapEntry t xo io => match ρ xo, ρ io with | some u, some v => actMapEntry T get t u v k | _, _ => none
  | .entryStore _ xo so yo => match ρ xo, ρ so with | some u, some v => (match ρ yo with | some y => actEntryStore get u v y k | none => none) | _, _ => none
  | .call { callee := .builtin .delete, args := ⟨[xo, io]⟩, argTypes := ⟨[t, _]⟩ } => match ρ xo, ρ io with | some u, some v => actDelete T get t u v k | _, _ => none
  | .makeFunc (.func f) fs ⟨[]⟩ => match fs.toList.mapM ρ with | some vs => bif vs.isEmpty then k (.fn f .nil) [] else k (.fn f (.tup (capsOf vs))) [] | none => none
  | .makeFunc (.func f) ⟨[]⟩ cs => match cs.toList.mapM ρ with | some vs => k (.fn f (capsOf vs)) [] | none => none
  | .makeSlice t no co => match ρ no, ρ co with | some n, some c => actMakeSlice T get an.base t n c k | _, _ => none
  | .call { callee := .value fo, args := argos, .. } => match ρ fo with
    | some (.fn f caps) => match fns f, argos.toList.mapM ρ with
      | some F, some args => (match caps.given args with
        | some all => actCall get an F all (roCall an get k)
        | none => none)
      | _, _ => none
    | _ => none
  | _ => none

section
variable {P : Program} {T : Tbl} {ρ : Operand → Option AVal} {get : Nat → Option AObj} {a : Act} {w : World} {x : Ctx} {R : Type}

theorem constVal_V {v : Value} {av : AVal} (h : constVal v = some av) : av.V x v := by
  unfold constVal at h
  split at h <;> cases h <;> simp [AVal.V, AVal.agg, Ty.agg, AVal.C, Ty.Rel]

theorem optK_inv (H : Meets P T ρ get a w x) {o : Option Operand} {k : Option AVal → Option R} {z : R} (h : optK ρ o k = some z) : ∃ v, optV x a o v ∧ k v = some z := by
  unfold optK at h
  split at h
  · exact ⟨none, trivial, h⟩
  · split at h
    · rename_i v hv; exact ⟨some v, H.val _ _ hv, h⟩
    · cases h

/-- Each operation does what the machine says. -/
theorem actK_ok {fns : Fns} (hfns : FnsOk P fns) (H : Meets P T ρ get a w x) (o : Oper) (an : Ann) {k : AVal → Ups → Option R} {z : R} (hk : actK R T fns o.op an ρ get k = some z) : ∃ u ups, k u ups = some z ∧ ActOk P o a w x u ups := by
  have one : ∀ {xo : Operand} {f : AVal → Option R}, (match ρ xo with | some v => f v | none => none) = some z → ∃ v, ρ xo = some v ∧ f v = some z := by
    intro xo f h
    cases hx : ρ xo with
    | none => rw [hx] at h; cases h
    | some v => rw [hx] at h; exact ⟨v, rfl, h⟩
  have two : ∀ {xo yo : Operand} {f : AVal → AVal → Option R}, (match ρ xo, ρ yo with | some u, some v => f u v | _, _ => none) = some z → ∃ u v, ρ xo = some u ∧ ρ yo = some v ∧ f u v = some z := by
    intro xo yo f h
    cases hx : ρ xo with
    | none => rw [hx] at h; cases h
    | some u =>
      cases hy : ρ yo with
      | none => rw [hx, hy] at h; cases h
      | some v => rw [hx, hy] at h; exact ⟨u, v, rfl, rfl, h⟩
  unfold actK at hk
  split at hk
  · rename_i xo ho; obtain ⟨v, hx, hk⟩ := one hk; exact ⟨v, [], hk, ActOk.value H.mem H.h (by simp only [execOp, ho, Sem.run_pure]) (H.val _ _ hx)⟩
  · rename_i xo ho; obtain ⟨v, hx, hk⟩ := one hk; exact ⟨v, [], hk, ActOk.value H.mem H.h (by simp only [execOp, ho, Sem.run_pure]) (H.val _ _ hx)⟩
  · rename_i co xo yo ho
    split at hk
    case h_2 => cases hk
    rename_i p b hc
    have hb := V_bool.1 (H.val _ _ hc)
    cases b with
    | true =>
      obtain ⟨v, hx, hk⟩ := one hk
      exact ⟨v, [], hk, ActOk.value H.mem H.h (by simp only [execOp, ho, hb, asBool, Sem.run_bind, Sem.run_pure, Result.andThen_ok, if_true]) (H.val _ _ hx)⟩
    | false =>
      obtain ⟨v, hx, hk⟩ := one hk
      exact ⟨v, [], hk, ActOk.value H.mem H.h (by simp only [execOp, ho, hb, asBool, Sem.run_bind, Sem.run_pure, Result.andThen_ok, Bool.false_eq_true, if_false]) (H.val _ _ hx)⟩
  · rename_i t ho
    split at hk
    case h_2 => cases hk
    rename_i d hd
    exact actAlloc_zero H ho hd hk
  · rename_i t xo ho; obtain ⟨v, hx, hk⟩ := one hk; exact actAlloc_box H ho (H.val _ _ hx) hk
  · rename_i t xo ho; obtain ⟨v, hx, hk⟩ := one hk; exact actLoad_ok H ho (H.val _ _ hx) hk
  · rename_i t xo yo ho; obtain ⟨u, v, hx, hy, hk⟩ := two hk; exact actStore_ok H ho (H.val _ _ hx) (H.val _ _ hy) hk
  · rename_i xo ho; obtain ⟨v, hx, hk⟩ := one hk; exact actNilCheck_ok H ho (H.val _ _ hx) hk
  · rename_i op t xo yo yt ho; obtain ⟨u, v, hx, hy, hk⟩ := two hk; exact (by
      cases hc : isNilC yo with
      | true => rw [hc] at hk; exact actNil_ok H ho hc (H.val _ _ hx) hk
      | false => rw [hc] at hk; exact actBin_ok H ho (H.val _ _ hx) (H.val _ _ hy) hk)
  · rename_i op t xo ho; obtain ⟨v, hx, hk⟩ := one hk; exact actUn_ok H ho (H.val _ _ hx) hk
  · rename_i s d xo ho; obtain ⟨v, hx, hk⟩ := one hk; exact actConv_ok H ho (H.val _ _ hx) hk
  · rename_i t xo j ho; obtain ⟨v, hx, hk⟩ := one hk; exact actFieldAddr_ok H ho (H.val _ _ hx) hk
  · rename_i t xo j ho; obtain ⟨v, hx, hk⟩ := one hk; exact actField_ok H ho (H.val _ _ hx) hk
  · rename_i t xo io ho; obtain ⟨u, v, hx, hy, hk⟩ := two hk; exact actIndexAddr_ok H ho (H.val _ _ hx) (H.val _ _ hy) hk
  · rename_i t xo io ho; obtain ⟨u, v, hx, hy, hk⟩ := two hk; exact actIndex_ok H ho (H.val _ _ hx) (H.val _ _ hy) hk
  · rename_i t ps ho
    split at hk
    case h_2 => cases hk
    rename_i qs hq
    obtain ⟨hall, hk⟩ := cond_some hk
    exact actBuild_ok H ho hq (fun fs hfs => by rw [hfs] at hall; exact hall) hk
  · rename_i t n ps ho
    split at hk
    case h_2 => cases hk
    rename_i qs hq
    exact actBuildSlice_ok H ho hq hk
  · rename_i xo j ho; obtain ⟨v, hx, hk⟩ := one hk; exact actExtract_ok H ho (H.val _ _ hx) hk
  · rename_i vo ats ho
    split at hk
    case h_2 => cases hk
    rename_i v t hx ht
    exact actLen_ok H ho ht (H.val _ _ hx) hk
  · rename_i xo yo ats ho
    obtain ⟨u, v, hx, hy, hk⟩ := two hk
    exact actMin_ok H ho (H.val _ _ hx) (H.val _ _ hy) hk
  · rename_i xo yo ats ho
    obtain ⟨u, v, hx, hy, hk⟩ := two hk
    exact actMax_ok H ho (H.val _ _ hx) (H.val _ _ hy) hk
  · rename_i so vo t tx ho
    obtain ⟨u, v, hx, hy, hk⟩ := two hk
    exact actAppend_ok H ho (H.val _ _ hx) (H.val _ _ hy) hk
  · rename_i t xo lo hi mx ho
    obtain ⟨v, hx, hk⟩ := one hk
    obtain ⟨l, hl, hk⟩ := optK_inv H hk
    obtain ⟨h, hh, hk⟩ := optK_inv H hk
    obtain ⟨m, hm, hk⟩ := optK_inv H hk
    exact actSlice_ok H ho (H.val _ _ hx) hl hh hm hk
  · rename_i t ho; exact actMakeMap_ok H ho hk
  · rename_i t xo ho; obtain ⟨v, hx, hk⟩ := one hk; exact actRange_ok H ho (H.val _ _ hx) hk
  · rename_i xo ho; obtain ⟨v, hx, hk⟩ := one hk; exact actEntry_ok H ho (H.val _ _ hx) hk
  · rename_i t xo io ok ho
    obtain ⟨u, v, hx, hy, hk⟩ := two hk
    exact actLookup_ok H ho (H.val _ _ hx) (H.val _ _ hy) hk
  · rename_i t xo io yo ho
    obtain ⟨u, v, hx, hy, hk⟩ := two hk
    obtain ⟨y, hz, hk⟩ := one hk
    exact actMapUpdate_ok H ho (H.val _ _ hx) (H.val _ _ hy) (H.val _ _ hz) hk
  · rename_i t xo io ho
    obtain ⟨u, v, hx, hy, hk⟩ := two hk
    exact actMapEntry_ok H ho (H.val _ _ hx) (H.val _ _ hy) hk
  · rename_i t xo so yo ho
    obtain ⟨u, v, hx, hy, hk⟩ := two hk
    obtain ⟨y, hz, hk⟩ := one hk
    exact actEntryStore_ok H ho (H.val _ _ hx) (H.val _ _ hy) (H.val _ _ hz) hk
  · rename_i xo io t t' ho
    obtain ⟨u, v, hx, hy, hk⟩ := two hk
    exact actDelete_ok H ho (H.val _ _ hx) (H.val _ _ hy) hk
  · rename_i f fs ho
    split at hk
    case h_2 => cases hk
    rename_i vs hvs
    cases vs with
    | nil =>
      have hfs : fs = #[] := by
        obtain ⟨l⟩ := fs
        cases l with
        | nil => rfl
        | cons o l =>
          rw [show (⟨o :: l⟩ : Array Operand).toList = o :: l from rfl, List.mapM_cons] at hvs
          cases ho : ρ o with
          | none => rw [ho] at hvs; cases hvs
          | some v =>
            rw [ho] at hvs
            cases hl : l.mapM ρ with
            | none => rw [hl] at hvs; cases hvs
            | some us => rw [hl] at hvs; cases hvs
      subst hfs
      exact actMakeFunc_ok (vs := []) H ho rfl hk
    | cons v vs => exact actMakeBound_ok H ho hvs hk
  · rename_i f cs _ ho
    split at hk
    case h_2 => cases hk
    rename_i vs hvs
    exact actMakeFunc_ok H ho hvs hk
  · rename_i t no co ho
    obtain ⟨n, c, hx, hy, hk⟩ := two hk
    exact actMakeSlice_ok H ho (H.val _ _ hx) (H.val _ _ hy) hk
  · rename_i fo argos ats ho
    split at hk
    case h_2 => cases hk
    rename_i f caps hf
    split at hk
    case h_2 => cases hk
    rename_i F args hF hargs
    split at hk
    case h_2 => cases hk
    rename_i all hall
    obtain ⟨u, ups, hk, hok⟩ := actCall_ok H ho (hfns f F hF) hf hall hargs an hk
    exact roCall_ok H.obj hk hok
  · cases hk
end
end Go.Am
