/- The abstract machine: S T TA TB. -/
import Derived.Test.YtbamjkhnnlekpaaAmRE
/- The abstract machine, nineteenth part: one operation, whichever it is. -/
namespace Go.Am

def constVal : Value → Option AVal
  | .bool b => some (.dat true .bool b)
  | .int k n => some (.dat true (.int k) n)
  | .string s => some (.dat true .str s)
  | .pointer none => some .nilp
  | .slice none 0 0 => some .nils
  | .map none => some .nilm
  | .nilFunc => some .nilf
  | .nilIface => some .nili
  | _ => none

structure AOp where
  o : Oper
  an : Ann
  /-- the slot that decides whether it is done -/
  guard : Option (Nat × Bool)

def tmpsOf (os : List Operand) : List Nat := os.filterMap fun | .tmp t => some t | _ => none

def AOp.reads (ao : AOp) : List Nat := tmpsOf ao.o.op.operands.toList ++ (match ao.guard with | some (g, _) => [g] | none => [])

def opval (reads : List Nat) (slots : Nat → Option AVal) : Operand → Option AVal
  | .tmp t => bif memB reads t then slots t else none
  | .const v => constVal v
  | .func f => some (.fn f .nil)
  | .global _ => none

def parts? (ρ : Operand → Option AVal) (ps : Array (Nat × Operand)) : Option (List (Nat × AVal)) := ps.toList.mapM fun p => (ρ p.2).map fun v => (p.1, v)

def optK {R : Type} (ρ : Operand → Option AVal) (o : Option Operand) (k : Option AVal → Option R) : Option R :=
  match o with
  | none => k none
  | some o => match ρ o with
    | some v => k (some v)
    | none => none

noncomputable def actK (R : Type) (T : Tbl) (fns : Fns) (op : Op) (an : Ann) (ρ : Operand → Option AVal) (get : Nat → Option AObj) (k : AVal → Ups → Option R) : Option R :=
  match op with
  | .move x | .assign x => match ρ x with | some v => k v [] | none => none
  | .pick c x y => match ρ c with
    | some (.dat _ .bool b) => bif b then (match ρ x with | some v => k v [] | none => none) else (match ρ y with | some v => k v [] | none => none)
    | _ => none
  | .alloc t => match T t with | some d => actAlloc get an.base d.zero k | none => none
  | .box _ x => match ρ x with | some v => actAlloc get an.base v k | none => none
  | .load t x => match ρ x with | some v => actLoad T get t v k | none => none
  | .store t x y => match ρ x, ρ y with | some u, some v => actStore T get t u v k | _, _ => none
  | .nilCheck x => match ρ x with | some v => actNilCheck get v (k v []) | none => none
  | .binOp op t x y _ => match ρ x, ρ y with | some u, some v => bif isNilC y then actNil T get op t u (fun v => k v []) else actBin T get op t u v (fun v => k v []) | _, _ => none
  | .unOp op _ x => match ρ x with | some v => actUn op v (fun v => k v []) | none => none
  | .convert s d x => match ρ x with | some v => actConv T s d v (fun v => k v []) | none => none
  | .fieldAddr t x j => match ρ x with | some v => actFieldAddr T get t v j k | none => none
  | .field t x j => match ρ x with | some v => actField T t v j (fun v => k v []) | none => none
  | .indexAddr t x i => match ρ x, ρ i with | some u, some v => actIndexAddr T get t u v (fun v => k v []) | _, _ => none
  | .index t x i => match ρ x, ρ i with | some u, some v => actIndex T t u v (fun v => k v []) | _, _ => none
  | .build t ps => match parts? ρ ps with
    | some qs => bif (match undOf T t with | .struct fs => fs.all (fun f => (T f.2).isSome) | _ => true) then actBuild T t qs (fun v => k v []) else none
    | none => none
  | .buildSlice t n ps => match parts? ρ ps with | some qs => actBuildSlice T get an.base t n qs k | none => none
  | .extract x j => match ρ x with | some v => actExtract v j (fun v => k v []) | none => none
  | .call { callee := .builtin .len, args := ⟨[vo]⟩, argTypes := ats } => match ρ vo, ats[0]? with | some v, some t => actLen T get t v (fun v => k v []) | _, _ => none
  | .call { callee := .builtin .min, args := ⟨[xo, yo]⟩, .. } => match ρ xo, ρ yo with | some u, some v => actMin u v (fun v => k v []) | _, _ => none
  | .call { callee := .builtin .max, args := ⟨[xo, yo]⟩, .. } => match ρ xo, ρ yo with | some u, some v => actMax u v (fun v => k v []) | _, _ => none
  | .call { callee := .builtin .append, args := ⟨[so, vo]⟩, argTypes := ⟨[t, tx]⟩ } => match ρ so, ρ vo with | some u, some v => actAppend T get an.base t tx u v k | _, _ => none
  | .call { callee := .builtin .clear, args := ⟨[vo]⟩, argTypes := ⟨[t]⟩ } => match ρ vo with | some v => actClear T get t v k | none => none
  | .slice t xo lo hi mx => match ρ xo with | some v => optK ρ lo fun l => optK ρ hi fun h => optK ρ mx fun m => actSlice T get an.mode t v l h m k | none => none
  | .makeMap t none => actNewMap T get an.base t k
  | .range t xo => match ρ xo with | some v => actRange T get an.base t v k | none => none
  | .entry xo => match ρ xo with | some v => actEntry get v k | none => none
  | .lookup t xo io ok => match ρ xo, ρ io with | some u, some v => actLook T get t u v ok k | _, _ => none
  | .mapUpdate t xo io yo => match ρ xo, ρ io with | some u, some v => (match ρ yo with | some y => actMapPut T get t u v y k | none => none) | _, _ => none
  | .mapEntry t xo io => match ρ xo, ρ io with | some u, some v => actMapEntry T get t u v k | _, _ => none
  | .entryStore _ xo so yo => match ρ xo, ρ so with | some u, some v => (match ρ yo with | some y => actEntryStore get u v y k | none => none) | _, _ => none
  | .call { callee := .builtin .delete, args := ⟨[xo, io]⟩, argTypes := ⟨[t, _]⟩ } => match ρ xo, ρ io with | some u, some v => actDel T get t u v k | _, _ => none
  | .makeFunc (.func f) fs ⟨[]⟩ => match fs.toList.mapM ρ with | some vs => bif vs.isEmpty then k (.fn f .nil) [] else k (.fn f (.tup (capsOf vs))) [] | none => none
  | .makeFunc (.func f) ⟨[]⟩ cs => match cs.toList.mapM ρ with | some vs => k (.fn f (capsOf vs)) [] | none => none
  | .makeSlice t no co => match ρ no, ρ co with | some n, some c => actMakeSlice T get an.base t n c k | _, _ => none
  | .call { callee := .value fo, args := argos, .. } => match ρ fo with
    | some (.fn f caps) => match fns f, argos.toList.mapM ρ with
      | some F, some args => (match caps.given args with
        | some all => actCall get an F all (roCall an get k)
        | none => none)
      | _, _ => none
    | _ => none
  | _ => none

section
variable {P : Program} {T : Tbl} {ρ : Operand → Option AVal} {get : Nat → Option AObj} {a : Act} {w : World} {x : Ctx} {R : Type}

theorem constVal_V {v : Value} {av : AVal} (h : constVal v = some av) : av.V x v := by
  unfold constVal at h
  split at h <;> cases h <;> simp [AVal.V, AVal.agg, Ty.agg, AVal.C, Ty.Rel]

theorem optK_inv (H : Meets P T ρ get a w x) {o : Option Operand} {k : Option AVal → Option R} {z : R} (h : optK ρ o k = some z) : ∃ v, optV x a o v ∧ k v = some z := by
  unfold optK at h
  split at h
  · exact ⟨none, trivial, h⟩
  · split at h
    · rename_i v hv; exact ⟨some v, H.val _ _ hv, h⟩
    · cases h

/-- Each operation does what the machine says. -/
theorem actK_ok {fns : Fns} (hfns : FnsOk P fns) (H : Meets P T ρ get a w x) (o : Oper) (an : Ann) {k : AVal → Ups → Option R} {z : R} (hk : actK R T fns o.op an ρ get k = some z) : ∃ u ups, k u ups = some z ∧ ActOk P o a w x u ups := by
  have one : ∀ {xo : Operand} {f : AVal → Option R}, (match ρ xo with | some v => f v | none => none) = some z → ∃ v, ρ xo = some v ∧ f v = some z := by
    intro xo f h
    cases hx : ρ xo with
    | none => rw [hx] at h; cases h
    | some v => rw [hx] at h; exact ⟨v, rfl, h⟩
  have two : ∀ {xo yo : Operand} {f : AVal → AVal → Option R}, (match ρ xo, ρ yo with | some u, some v => f u v | _, _ => none) = some z → ∃ u v, ρ xo = some u ∧ ρ yo = some v ∧ f u v = some z := by
    intro xo yo f h
    cases hx : ρ xo with
    | none => rw [hx] at h; cases h
    | some u =>
      cases hy : ρ yo with
      | none => rw [hx, hy] at h; cases h
      | some v => rw [hx, hy] at h; exact ⟨u, v, rfl, rfl, h⟩
  unfold actK at hk
  split at hk
  · rename_i xo ho; obtain ⟨v, hx, hk⟩ := one hk; exact ⟨v, [], hk, ActOk.value H.mem H.h (by simp only [execOp, ho, Sem.run_pure]) (H.val _ _ hx)⟩
  · rename_i xo ho; obtain ⟨v, hx, hk⟩ := one hk; exact ⟨v, [], hk, ActOk.value H.mem H.h (by simp only [execOp, ho, Sem.run_pure]) (H.val _ _ hx)⟩
  · rename_i co xo yo ho
    split at hk
    case h_2 => cases hk
    rename_i p b hc
    have hb := V_bool.1 (H.val _ _ hc)
    cases b with
    | true =>
      obtain ⟨v, hx, hk⟩ := one hk
      exact ⟨v, [], hk, ActOk.value H.mem H.h (by simp only [execOp, ho, hb, asBool, Sem.run_bind, Sem.run_pure, Result.andThen_ok, if_true]) (H.val _ _ hx)⟩
    | false =>
      obtain ⟨v, hx, hk⟩ := one hk
      exact ⟨v, [], hk, ActOk.value H.mem H.h (by simp only [execOp, ho, hb, asBool, Sem.run_bind, Sem.run_pure, Result.andThen_ok, Bool.false_eq_true, if_false]) (H.val _ _ hx)⟩
  · rename_i t ho
    split at hk
    case h_2 => cases hk
    rename_i d hd
    exact actAlloc_zero H ho hd hk
  · rename_i t xo ho; obtain ⟨v, hx, hk⟩ := one hk; exact actAlloc_box H ho (H.val _ _ hx) hk
  · rename_i t xo ho; obtain ⟨v, hx, hk⟩ := one hk; exact actLoad_ok H ho (H.val _ _ hx) hk
  · rename_i t xo yo ho; obtain ⟨u, v, hx, hy, hk⟩ := two hk; exact actStore_ok H ho (H.val _ _ hx) (H.val _ _ hy) hk
  · rename_i xo ho; obtain ⟨v, hx, hk⟩ := one hk; exact actNilCheck_ok H ho (H.val _ _ hx) hk
  · rename_i op t xo yo yt ho; obtain ⟨u, v, hx, hy, hk⟩ := two hk; exact (by
      cases hc : isNilC yo with
      | true => rw [hc] at hk; exact actNil_ok H ho hc (H.val _ _ hx) hk
      | false => rw [hc] at hk; exact actBin_ok H ho (H.val _ _ hx) (H.val _ _ hy) hk)
  · rename_i op t xo ho; obtain ⟨v, hx, hk⟩ := one hk; exact actUn_ok H ho (H.val _ _ hx) hk
  · rename_i s d xo ho; obtain ⟨v, hx, hk⟩ := one hk; exact actConv_ok H ho (H.val _ _ hx) hk
  · rename_i t xo j ho; obtain ⟨v, hx, hk⟩ := one hk; exact actFieldAddr_ok H ho (H.val _ _ hx) hk
  · rename_i t xo j ho; obtain ⟨v, hx, hk⟩ := one hk; exact actField_ok H ho (H.val _ _ hx) hk
  · rename_i t xo io ho; obtain ⟨u, v, hx, hy, hk⟩ := two hk; exact actIndexAddr_ok H ho (H.val _ _ hx) (H.val _ _ hy) hk
  · rename_i t xo io ho; obtain ⟨u, v, hx, hy, hk⟩ := two hk; exact actIndex_ok H ho (H.val _ _ hx) (H.val _ _ hy) hk
  · rename_i t ps ho
    split at hk
    case h_2 => cases hk
    rename_i qs hq
    obtain ⟨hall, hk⟩ := cond_some hk
    exact actBuild_ok H ho hq (fun fs hfs => by rw [hfs] at hall; exact hall) hk
  · rename_i t n ps ho
    split at hk
    case h_2 => cases hk
    rename_i qs hq
    exact actBuildSlice_ok H ho hq hk
  · rename_i xo j ho; obtain ⟨v, hx, hk⟩ := one hk; exact actExtract_ok H ho (H.val _ _ hx) hk
  · rename_i vo ats ho
    split at hk
    case h_2 => cases hk
    rename_i v t hx ht
    exact actLen_ok H ho ht (H.val _ _ hx) hk
  · rename_i xo yo ats ho
    obtain ⟨u, v, hx, hy, hk⟩ := two hk
    exact actMin_ok H ho (H.val _ _ hx) (H.val _ _ hy) hk
  · rename_i xo yo ats ho
    obtain ⟨u, v, hx, hy, hk⟩ := two hk
    exact actMax_ok H ho (H.val _ _ hx) (H.val _ _ hy) hk
  · rename_i so vo t tx ho
    obtain ⟨u, v, hx, hy, hk⟩ := two hk
    exact actAppend_ok H ho (H.val _ _ hx) (H.val _ _ hy) hk
  · rename_i vo t ho; obtain ⟨v, hx, hk⟩ := one hk; exact actClear_ok H ho (H.val _ _ hx) hk
  · rename_i t xo lo hi mx ho
    obtain ⟨v, hx, hk⟩ := one hk
    obtain ⟨l, hl, hk⟩ := optK_inv H hk
    obtain ⟨h, hh, hk⟩ := optK_inv H hk
    obtain ⟨m, hm, hk⟩ := optK_inv H hk
    exact actSlice_ok H ho (H.val _ _ hx) hl hh hm hk
  · rename_i t ho; exact actNewMap_ok H ho hk
  · rename_i t xo ho; obtain ⟨v, hx, hk⟩ := one hk; exact actRange_ok H ho (H.val _ _ hx) hk
  · rename_i xo ho; obtain ⟨v, hx, hk⟩ := one hk; exact actEntry_ok H ho (H.val _ _ hx) hk
  · rename_i t xo io ok ho
    obtain ⟨u, v, hx, hy, hk⟩ := two hk
    exact actLook_ok H ho (H.val _ _ hx) (H.val _ _ hy) hk
  · rename_i t xo io yo ho
    obtain ⟨u, v, hx, hy, hk⟩ := two hk
    obtain ⟨y, hz, hk⟩ := one hk
    exact actMapPut_ok H ho (H.val _ _ hx) (H.val _ _ hy) (H.val _ _ hz) hk
  · rename_i t xo io ho
    obtain ⟨u, v, hx, hy, hk⟩ := two hk
    exact actMapEntry_ok H ho (H.val _ _ hx) (H.val _ _ hy) hk
  · rename_i t xo so yo ho
    obtain ⟨u, v, hx, hy, hk⟩ := two hk
    obtain ⟨y, hz, hk⟩ := one hk
    exact actEntryStore_ok H ho (H.val _ _ hx) (H.val _ _ hy) (H.val _ _ hz) hk
  · rename_i xo io t t' ho
    obtain ⟨u, v, hx, hy, hk⟩ := two hk
    exact actDel_ok H ho (H.val _ _ hx) (H.val _ _ hy) hk
  · rename_i f fs ho
    split at hk
    case h_2 => cases hk
    rename_i vs hvs
    cases vs with
    | nil =>
      have hfs : fs = #[] := by
        obtain ⟨l⟩ := fs
        cases l with
        | nil => rfl
        | cons o l =>
          rw [show (⟨o :: l⟩ : Array Operand).toList = o :: l from rfl, List.mapM_cons] at hvs
          cases ho : ρ o with
          | none => rw [ho] at hvs; cases hvs
          | some v =>
            rw [ho] at hvs
            cases hl : l.mapM ρ with
            | none => rw [hl] at hvs; cases hvs
            | some us => rw [hl] at hvs; cases hvs
      subst hfs
      exact actMakeFunc_ok (vs := []) H ho rfl hk
    | cons v vs => exact actMakeBound_ok H ho hvs hk
  · rename_i f cs _ ho
    split at hk
    case h_2 => cases hk
    rename_i vs hvs
    exact actMakeFunc_ok H ho hvs hk
  · rename_i t no co ho
    obtain ⟨n, c, hx, hy, hk⟩ := two hk
    exact actMakeSlice_ok H ho (H.val _ _ hx) (H.val _ _ hy) hk
  · rename_i fo argos ats ho
    split at hk
    case h_2 => cases hk
    rename_i f caps hf
    split at hk
    case h_2 => cases hk
    rename_i F args hF hargs
    split at hk
    case h_2 => cases hk
    rename_i all hall
    obtain ⟨u, ups, hk, hok⟩ := actCall_ok H ho (hfns f F hF) hf hall hargs an hk
    exact roCall_ok H.obj hk hok
  · cases hk
end
end Go.Am

/- The abstract machine, twentieth part: what an operation comes to does not hang on what is done with it. -/
namespace Go.Am

/-- What is done with the answer is done with it alone. -/
def CN {α : Type} (A : (R : Type) → (α → Option R) → Option R) : Prop := ∀ (R : Type) (k : α → Option R) (z : R), A R k = some z → ∃ v, k v = some z ∧ ∀ (R' : Type) (k' : α → Option R'), A R' k' = k' v

theorem CN.ret {α : Type} (v : α) : CN fun _ k => k v := fun _ _ _ h => ⟨v, h, fun _ _ => rfl⟩
theorem CN.fail {α : Type} : CN (α := α) fun _ _ => none := fun _ _ _ h => by cases h
theorem CN.bif {α : Type} (c : Bool) {A B : (R : Type) → (α → Option R) → Option R} (hA : CN A) (hB : CN B) : CN fun R k => bif c then A R k else B R k := by
  cases c
  · exact hB
  · exact hA
theorem CN.ite {α : Type} (c : Prop) [Decidable c] {A B : (R : Type) → (α → Option R) → Option R} (hA : CN A) (hB : CN B) : CN fun R k => if c then A R k else B R k := by
  by_cases h : c
  · simp only [h, if_true]; exact hA
  · simp only [h, if_false]; exact hB
theorem CN.dite {α : Type} (c : Prop) [Decidable c] {A : c → (R : Type) → (α → Option R) → Option R} (hA : ∀ h, CN (A h)) : CN fun R k => if h : c then A h R k else none := by
  by_cases h : c
  · simp only [h, dite_true]; exact hA h
  · simp only [h, dite_false]; exact .fail
/-- One behind the other. -/
theorem CN.bind {α β : Type} {A : (R : Type) → (α → Option R) → Option R} (hA : CN A) {B : α → (R : Type) → (β → Option R) → Option R} (hB : ∀ v, CN (B v)) : CN fun R k => A R fun v => B v R k := by
  intro R k z h
  obtain ⟨v, h1, h2⟩ := hA _ _ _ h
  obtain ⟨u, h3, h4⟩ := hB v _ _ _ h1
  exact ⟨u, h3, fun R' k' => (h2 R' _).trans (h4 R' k')⟩

theorem getK_cn : ∀ (p : Path) (v : AVal), CN fun _ k => v.getK p k := by
  intro p
  induction p with
  | nil => intro v; exact .ret v
  | cons st p ih =>
    intro v
    cases v with
    | dat q t d =>
      cases t <;> cases st <;> first
        | exact ih _
        | exact .fail
        | (simp only [AVal.getK]
           split
           · exact ih _
           · exact .fail)
    | pair a b => cases st <;> first | exact ih _ | exact .fail
    | one a => cases st <;> first | exact ih _ | exact .fail
    | _ => cases st <;> exact .fail

theorem setK_cn : ∀ (p : Path) (v u : AVal), CN fun _ k => v.setK p u k := by
  intro p
  induction p with
  | nil => intro v u; exact CN.ite _ (.ret u) .fail
  | cons st p ih =>
    intro v u
    cases v with
    | dat q t d =>
      cases t <;> cases st <;> first
        | exact CN.bind (ih _ _) fun y => .ret _
        | exact .fail
        | (simp only [AVal.setK]
           split
           · refine CN.bind (ih _ _) fun y => ?_
             cases y with
             | dat q' t' y' => exact CN.bif _ (CN.dite _ fun h => .ret _) .fail
             | _ => exact .fail
           · exact .fail)
    | pair a b => cases st <;> first | exact CN.bind (ih _ _) fun y => .ret _ | exact .fail
    | one a => cases st <;> first | exact CN.bind (ih _ _) fun y => .ret _ | exact .fail
    | _ => cases st <;> exact .fail

/-- The answer of an operation: a value and what objects are now. -/
def CN2 (A : (R : Type) → (AVal → Ups → Option R) → Option R) : Prop := CN (α := AVal × Ups) fun R k => A R fun v u => k (v, u)

theorem CN2.ret (v : AVal) (u : Ups) : CN2 fun _ k => k v u := CN.ret (v, u)
theorem CN2.fail : CN2 fun _ _ => none := CN.fail
theorem CN2.bif (c : Bool) {A B : (R : Type) → (AVal → Ups → Option R) → Option R} (hA : CN2 A) (hB : CN2 B) : CN2 fun R k => bif c then A R k else B R k := CN.bif c hA hB
theorem CN2.ite (c : Prop) [Decidable c] {A B : (R : Type) → (AVal → Ups → Option R) → Option R} (hA : CN2 A) (hB : CN2 B) : CN2 fun R k => if c then A R k else B R k := CN.ite c hA hB
theorem CN2.dite (c : Prop) [Decidable c] {A : c → (R : Type) → (AVal → Ups → Option R) → Option R} (hA : ∀ h, CN2 (A h)) : CN2 fun R k => if h : c then A h R k else none := CN.dite c hA
/-- An operation that leaves the objects alone. -/
theorem CN2.plain {A : (R : Type) → (AVal → Option R) → Option R} (hA : CN A) : CN2 fun R k => A R fun v => k v [] := CN.bind hA fun v => .ret (v, [])
theorem CN2.bind {β : Type} {A : (R : Type) → (β → Option R) → Option R} (hA : CN A) {B : β → (R : Type) → (AVal → Ups → Option R) → Option R} (hB : ∀ v, CN2 (B v)) : CN2 fun R k => A R fun v => B v R k := CN.bind hA hB

section
variable (T : Tbl) (get : Nat → Option AObj)

theorem rootK_cn (r g : Nat) : CN fun _ k => rootK get r g k := by
  unfold rootK
  cases get r with
  | none => exact .fail
  | some o => cases o with
    | box b => exact .ret b
    | arr g' τ xs => exact CN.bif _ (.ret _) .fail
    | _ => exact .fail

theorem actLoad_cn (t : TypeId) (v : AVal) : CN2 fun _ k => actLoad T get t v k := by
  unfold actLoad
  split
  case h_2 => exact .fail
  cases v with
  | ptr r g p => exact CN2.bind (rootK_cn get r g) fun b => CN2.bind (getK_cn p b) fun u => CN2.bif _ (.ret _ _) .fail
  | ref q τ y => exact CN2.bif _ (.ret _ _) .fail
  | _ => exact .fail

theorem actStore_cn (t : TypeId) (v u : AVal) : CN2 fun _ k => actStore T get t v u k := by
  unfold actStore
  split
  case h_2 => exact .fail
  cases v with
  | ptr r g p =>
    refine CN2.bif _ ?_ .fail
    cases get r with
    | none => exact .fail
    | some o => cases o with
      | box b => exact CN2.bind (setK_cn p b u) fun b' => CN2.bif _ (.ret _ _) .fail
      | arr g' τ xs =>
        refine CN2.bif _ (CN2.bind (setK_cn p _ u) fun y => ?_) .fail
        cases y with
        | dat q t y =>
          cases q <;> cases t <;> first | exact CN2.dite _ fun h => .ret _ _ | exact .fail
        | _ => exact .fail
      | _ => exact .fail
  | _ => exact .fail

theorem actAlloc_cn (base : Nat) (v : AVal) : CN2 fun _ k => actAlloc get base v k := by
  unfold actAlloc
  cases get base with
  | none => exact .fail
  | some o => cases o with
    | free => exact CN2.bif _ (.ret _ _) .fail
    | _ => exact .fail

theorem actFieldAddr_cn (t : TypeId) (v : AVal) (j : Nat) : CN2 fun _ k => actFieldAddr T get t v j k := by
  unfold actFieldAddr
  split
  case h_2 => exact .fail
  split
  case h_2 => exact .fail
  split
  case h_2 => exact .fail
  refine CN2.bif _ .fail ?_
  split
  · split
    case h_2 => exact .fail
    split
    case h_2 => exact .fail
    split
    case h_2 => exact .fail
    exact CN2.bif _ (.ret _ _) .fail
  · refine CN2.bif _ (CN2.bind (getK_cn _ _) fun z => ?_) .fail
    split
    · exact CN2.bif _ (.ret _ _) .fail
    · exact .fail
  · exact .fail

theorem binEq_cn (op : BinOp) (r : Bool) : CN fun _ k => binEq op r k := by cases op <;> first | exact .ret _ | exact .fail

theorem binInt_cn (op : BinOp) (kd : IntKind) (a b : Int) : CN fun _ k => binInt op kd a b k := by
  cases op <;> first | exact .ret _ | exact .fail | exact CN.ite _ .fail (.ret _)

theorem shiftInt_cn (op : BinOp) (kd : IntKind) (a b : Int) : CN fun _ k => shiftInt op kd a b k := by
  cases op <;> first | exact .fail | exact CN.ite _ .fail (.ret _)

theorem binStr_cn (op : BinOp) (a b : ByteArray) : CN fun _ k => binStr op a b k := by
  cases op <;> first | exact .ret _ | exact .fail | exact CN.ite _ (.ret _) .fail

theorem thereK_cn (r g : Nat) {A : (R : Type) → (AVal → Option R) → Option R} (hA : CN A) : CN fun R k => thereK get r g (A R k) := by
  unfold thereK
  cases get r with
  | none => exact .fail
  | some o => cases o with
    | box b => exact hA
    | arr g' τ xs => exact CN.bif _ hA .fail
    | _ => exact .fail

theorem actBin_cn (op : BinOp) (t : TypeId) (u v : AVal) : CN fun _ k => actBin T get op t u v k := by
  unfold actBin
  split
  · cases op <;> first | exact shiftInt_cn _ _ _ _ | exact CN.ite _ (binInt_cn _ _ _ _) .fail
  · cases undOf T t <;> first | exact binEq_cn _ _ | exact .fail
  · exact binStr_cn _ _ _
  · exact CN.dite _ fun h => CN.bif _ (binEq_cn _ _) .fail
  · cases undOf T t <;> first | exact binEq_cn _ _ | exact .fail
  · cases undOf T t <;> first | exact thereK_cn get _ _ (binEq_cn _ _) | exact .fail
  · cases undOf T t <;> first | exact thereK_cn get _ _ (binEq_cn _ _) | exact .fail
  · cases undOf T t <;> first | exact binEq_cn _ _ | exact .fail
  · exact .fail

theorem actNil_cn (op : BinOp) (t : TypeId) (u : AVal) : CN fun _ k => actNil T get op t u k := by
  unfold actNil
  split
  · split
    · exact CN.bif _ .fail (binEq_cn _ _)
    · split <;> first | exact CN.bif _ (binEq_cn _ _) .fail | exact .fail
    · split <;> first | exact CN.bif _ (binEq_cn _ _) .fail | exact .fail
    · exact .fail
  · exact .fail

theorem mapK_cn (t : TypeId) (v u : AVal) {A : (r : Nat) → (K V : Ty) → MD K V → K.den → V.den → (R : Type) → (AVal → Ups → Option R) → Option R} (hA : ∀ r K V d kd z, CN2 (A r K V d kd z)) :
    CN2 fun R k => mapK T get t v u fun r K V d kd z => A r K V d kd z R k := by
  unfold mapK
  split
  · split
    · split
      · split
        · exact CN2.bif _ (hA _ _ _ _ _ _) .fail
        · exact .fail
      · exact .fail
    · exact .fail
  · exact .fail

theorem actMakeMap_cn (b : Nat) (t : TypeId) : CN2 fun _ k => actMakeMap T get b t k := by
  unfold actMakeMap
  split
  · split
    · exact .ret _ _
    · exact .fail
  · exact .fail

theorem actRange_cn (b : Nat) (t : TypeId) (v : AVal) : CN2 fun _ k => actRange T get b t v k := by
  unfold actRange
  split
  · split
    · split
      · exact .ret _ _
      · exact .fail
    · exact .fail
  · exact .fail

theorem actEntry_cn (v : AVal) : CN2 fun _ k => actEntry get v k := by
  unfold actEntry
  split
  · split
    · split
      · refine CN2.bif _ ?_ .fail
        unfold entP
        split
        · split
          · exact .ret _ _
          · exact .fail
        · exact .fail
      · exact .fail
    · exact .fail
  · exact .fail

theorem actLookup_cn (t : TypeId) (v u : AVal) (ok : Bool) : CN2 fun _ k => actLookup T get t v u ok k := by
  unfold actLookup
  exact mapK_cn T get t v u fun _ _ _ _ _ _ => CN2.bif _ (.ret _ _) (.ret _ _)

theorem actMapUpdate_cn (t : TypeId) (v u y : AVal) : CN2 fun _ k => actMapUpdate T get t v u y k := by
  unfold actMapUpdate
  refine mapK_cn T get t v u fun _ _ _ _ _ _ => ?_
  split
  · exact .ret _ _
  · exact .fail

theorem actMapEntry_cn (t : TypeId) (v u : AVal) : CN2 fun _ k => actMapEntry T get t v u k := by
  unfold actMapEntry
  exact mapK_cn T get t v u fun _ _ _ _ _ _ => .ret _ _

theorem actEntryStore_cn (v s y : AVal) : CN2 fun _ k => actEntryStore get v s y k := by
  unfold actEntryStore
  split
  · split
    · split
      · split
        · exact .ret _ _
        · exact .fail
      · exact .fail
    · exact .fail
  · exact .fail

theorem actDelete_cn (t : TypeId) (v u : AVal) : CN2 fun _ k => actDelete T get t v u k := by
  unfold actDelete
  exact mapK_cn T get t v u fun _ _ _ _ _ _ => .ret _ _

theorem actUn_cn (op : UnOp) (v : AVal) : CN fun _ k => actUn op v k := by
  unfold actUn
  split <;> first | exact .ret _ | exact .fail

theorem actConv_cn (s d : TypeId) (v : AVal) : CN fun _ k => actConv T s d v k := by
  unfold actConv
  split <;> first | exact .ret _ | exact .fail

theorem actField_cn (t : TypeId) (v : AVal) (j : Nat) : CN fun _ k => actField T t v j k := by
  unfold actField
  split
  · split
    · split
      case h_2 => exact .fail
      refine CN.bif _ (CN.bind (getK_cn _ _) fun u => CN.bif _ (.ret _) .fail) .fail
    · exact .fail
  · exact .fail

theorem actIndex_cn (t : TypeId) (v i : AVal) : CN fun _ k => actIndex T t v i k := by
  unfold actIndex
  split
  · split
    · exact CN.ite _ (.ret _) .fail
    · exact .fail
  · split
    · split
      case h_2 => exact .fail
      refine CN.bif _ (CN.ite _ ?_ .fail) .fail
      split <;> first | exact .ret _ | exact .fail
    · exact .fail
  · exact .fail

theorem actIndexAddr_cn (t : TypeId) (v i : AVal) : CN fun _ k => actIndexAddr T get t v i k := by
  unfold actIndexAddr
  split
  case h_2 => exact .fail
  split
  · split
    case h_2 => exact .fail
    split
    · split
      case h_2 => exact .fail
      split
      case h_2 => exact .fail
      split
      · exact CN.bif _ (CN.ite _ (.ret _) .fail) .fail
      · exact .fail
    · exact .fail
  · split
    case h_2 => exact .fail
    split
    · split
      · exact CN.bif _ (CN.ite _ (.ret _) .fail) .fail
      · exact .fail
    · split
      · exact CN.bif _ (CN.ite _ (.ret _) .fail) .fail
      · exact .fail
    · refine CN.bif _ (CN.ite _ ?_ .fail) .fail
      split <;> first | exact .ret _ | exact .fail
    · exact .fail
  · exact .fail

theorem buildK_cn (fs : List (Nat × TypeId)) (n : Nat) : ∀ (ps : List (Nat × AVal)) (acc : AVal), CN fun _ k => buildK T fs n acc ps k := by
  intro ps
  induction ps with
  | nil => intro acc; exact .ret acc
  | cons p ps ih =>
    intro acc
    obtain ⟨j, u⟩ := p
    unfold buildK
    split
    · split
      case h_2 => exact .fail
      exact CN.bif _ (CN.bind (setK_cn _ _ _) fun acc' => ih acc') .fail
    · exact .fail

theorem buildArrK_cn (es : Nat) : ∀ (ps : List (Nat × AVal)) (acc : AVal), CN fun _ k => buildArrK es acc ps k := by
  intro ps
  induction ps with
  | nil => intro acc; exact .ret acc
  | cons p ps ih =>
    intro acc
    obtain ⟨j, u⟩ := p
    unfold buildArrK
    exact CN.bif _ (CN.bind (setK_cn _ _ _) fun acc' => ih acc') .fail

theorem actBuild_cn (t : TypeId) (ps : List (Nat × AVal)) : CN fun _ k => actBuild T t ps k := by
  unfold actBuild
  split
  case h_2 => exact .fail
  refine CN.bif _ ?_ .fail
  split
  · exact CN.bind (buildK_cn T _ _ ps _) fun u => CN.bif _ (.ret _) .fail
  · split
    case h_2 => exact .fail
    split
    · exact CN.bif _ (CN.bind (buildArrK_cn _ ps _) fun u => CN.bif _ (.ret _) .fail) .fail
    · exact .fail
  · exact .fail

theorem actBuildSlice_cn (base : Nat) (t : TypeId) (n : Nat) (ps : List (Nat × AVal)) : CN2 fun _ k => actBuildSlice T get base t n ps k := by
  unfold actBuildSlice
  split
  · split
    · split
      · refine CN2.bif _ (CN2.bind (buildArrK_cn _ _ _) fun v => ?_) .fail
        split
        · exact CN2.bif _ (.ret _ _) .fail
        · exact .fail
      · exact .fail
    · exact .fail
  · exact .fail
theorem actExtract_cn (v : AVal) (j : Nat) : CN fun _ k => actExtract v j k := by
  unfold actExtract
  cases v with
  | tup vs =>
    simp only
    induction vs generalizing j with
    | cons a b iha ihb => cases j with
      | zero => exact .ret a
      | succ j => exact ihb j
    | _ => exact .fail
  | _ => exact .fail

theorem actLen_cn (t : TypeId) (v : AVal) : CN fun _ k => actLen T get t v k := by
  unfold actLen
  split <;> split <;> first
    | exact .ret _
    | exact .fail
    | (split <;> first | exact .ret _ | exact .fail | exact CN.bif _ (.ret _) .fail)

theorem actNilCheck_cn (v : AVal) : CN2 fun _ k => actNilCheck get v (k v []) := by
  unfold actNilCheck
  cases v with
  | ptr r g p => exact CN2.plain (A := fun R k => thereK get r g (k (.ptr r g p))) (thereK_cn get r g (.ret _))
  | ref own τ y => exact .ret _ _
  | fn i c => exact .ret _ _
  | _ => exact .fail

theorem callWith_cn {P : Program} {f : FuncId} {F : Fun} (hF : FunOk P f F) (an : Ann) (loc : List Nat) (objs : List AObj) (args : List AVal) (bor : List Nat) : CN (α := AVal × List AObj) fun _ k => callWith an F loc objs args bor fun r o => k (r, o) := by
  unfold callWith
  have hc : ∀ (l : List AVal) (os : List AObj), CN (α := AVal × List AObj) fun R k => F R l os fun r o => k (r, o) := by
    intro l os R k z h
    obtain ⟨ret, objs', h1, h2, _⟩ := hF.run _ _ _ _ _ h
    exact ⟨(ret, objs'), h1, fun R' k' => h2 R' fun r o => k' (r, o)⟩
  exact CN.bind (hc _ _) (B := fun p R (k : AVal × List AObj → Option R) => bif leftFits an objs p.2 bor p.1 then k (AVal.refs (backName loc (objs.map genOf) an.base) p.1, (List.range (objs.length + an.fresh)).map fun i => backObj (backName loc (objs.map genOf) an.base) ((objs.map genOf).getD i 0) (p.2.getD i .free)) else none) fun p => CN.bif _ (.ret _) .fail

theorem actCall_cn {P : Program} {f : FuncId} {F : Fun} (hF : FunOk P f F) (an : Ann) (args : List AVal) : CN2 fun _ k => actCall get an F args k := by
  unfold actCall
  split
  · split
    · rename_i objs args1 bor _ _
      refine CN2.bif _ ?_ .fail
      exact CN2.bind (callWith_cn hF an _ objs _ bor) (B := fun p R k => k p.1 ((an.loc ++ List.range' an.base an.fresh).zip p.2)) fun p => .ret _ _
    · exact .fail
  · rename_i ai p _
    unfold actOpen
    split
    case h_2 => exact .fail
    split
    case h_2 => exact .fail
    rename_i j _
    split
    case h_2 => exact .fail
    rename_i t xs _
    split
    case h_2 => exact .fail
    split
    case h_2 => exact .fail
    rename_i objs args1 bor _ _
    refine CN2.bif _ ?_ .fail
    refine CN2.bind (callWith_cn hF an _ _ _ bor) (B := fun p' R k => match p'.2[objs.length]? with
      | some (.box (.dat true t' d')) => if h : t' = t then k p'.1 ((an.loc ++ List.range' an.base an.fresh).zip (p'.2.eraseIdx objs.length) ++ [(p, .pool t (xs.set j (h ▸ d')))]) else none
      | _ => none) fun p' => ?_
    split
    · exact CN2.dite _ fun h => .ret _ _
    · exact .fail

theorem boundK_cn (o : Option AVal) (d y : Nat) : CN fun _ k => boundK o d y k := by
  unfold boundK
  split
  · exact .ret _
  · exact CN.ite _ (.ret _) .fail
  · exact .fail
theorem actSliceStr_cn (t : TypeId) (v : AVal) (l h : Option AVal) : CN fun _ k => actSliceStr T t v l h k := by
  unfold actSliceStr
  split
  · split
    · exact CN.bind (boundK_cn _ _ _) fun hh => CN.bind (boundK_cn _ _ _) fun ll => .ret _
    · exact .fail
  · exact .fail
theorem optK_cn (ρ : Operand → Option AVal) (o : Option Operand) : CN fun _ k => optK ρ o k := by
  unfold optK
  split
  · exact .ret _
  · split
    · exact .ret _
    · exact .fail
theorem boundsK_cn (len top : Nat) (l h m : Option AVal) : CN (α := Nat × Nat × Option Nat) fun _ k => boundsK len top l h m fun a b c => k (a, b, c) := by
  unfold boundsK
  split
  · exact CN.bind (boundK_cn _ _ _) fun hh => CN.bind (boundK_cn _ _ _) fun ll => .ret (ll, hh, none)
  · split
    · exact .fail
    · exact CN.bind (boundK_cn _ _ _) fun mm => CN.bind (boundK_cn _ _ _) fun hh => CN.bind (boundK_cn _ _ _) fun ll => .ret (ll, hh, some mm)
/-- Bounds, and what is done with them. -/
theorem CN2.bounds {len top : Nat} {l h m : Option AVal} {B : Nat → Nat → Option Nat → (R : Type) → (AVal → Ups → Option R) → Option R} (hB : ∀ a b c, CN2 (B a b c)) : CN2 fun R k => boundsK len top l h m fun a b c => B a b c R k :=
  CN2.bind (boundsK_cn len top l h m) (B := fun p => B p.1 p.2.1 p.2.2) fun p => hB _ _ _
theorem srcK_cn (v : AVal) (τ : Ty) : CN fun _ k => srcK get v τ k := by
  unfold srcK
  split
  · split
    · exact CN.bif _ (CN.dite _ fun h => .ret _) .fail
    · exact .fail
  · split
    · exact CN.bif _ (CN.dite _ fun h => .ret _) .fail
    · exact .fail
  · exact CN.bif _ (CN.dite _ fun h => .ret _) .fail
  · exact .ret _
  · exact .fail
theorem actAppend_cn (base : Nat) (t tx : TypeId) (s v : AVal) : CN2 fun _ k => actAppend T get base t tx s v k := by
  unfold actAppend
  split
  · split
    · refine CN2.bif _ ?_ .fail
      split
      · split
        · exact CN2.bif _ (CN2.bind (srcK_cn get v _) fun ys => CN2.ite _ (.ret _ _) .fail) .fail
        · exact .fail
      · split
        · exact CN2.bif _ (CN2.bind (srcK_cn get v _) fun ys => CN2.ite _ (.ret _ _) .fail) .fail
        · exact .fail
      · split
        · exact CN2.bif _ (CN2.bind (srcK_cn get v _) fun ys => CN2.ite _ (.ret _ _) .fail) .fail
        · exact .fail
      · split
        · exact CN2.bif _ (CN2.bind (srcK_cn get v _) fun ys => CN2.ite _ (.ret _ _) .fail) .fail
        · exact .fail
      · exact .fail
    · exact .fail
  · exact .fail
theorem actSlice_cn (mode : Nat) (t : TypeId) (v : AVal) (l h m : Option AVal) : CN2 fun _ k => actSlice T get mode t v l h m k := by
  unfold actSlice
  split
  · split
    · split
      · split
        · refine CN2.bif _ (CN2.bounds fun a b c => ?_) .fail
          cases c with
          | none => exact CN2.bif _ (.ret _ _) (.ret _ _)
          | some c => exact CN2.bif _ (CN2.ite _ (.ret _ _) .fail) (CN2.ite _ (.ret _ _) .fail)
        · exact .fail
      · split
        · refine CN2.bif _ (CN2.bounds fun a b c => ?_) .fail
          cases c with
          | none => exact CN2.bif _ .fail (.ret _ _)
          | some c => exact CN2.ite _ (.ret _ _) .fail
        · exact .fail
      · refine CN2.bif _ (CN2.bounds fun a b c => ?_) .fail
        cases c with
        | none => exact .ret _ _
        | some c => exact CN2.ite _ (.ret _ _) .fail
      · exact CN2.bounds fun a b c => .ret _ _
      · exact .fail
    · exact .fail
  · split
    · exact CN2.plain (actSliceStr_cn T _ _ _ _)
    · exact .fail
  · exact .fail
theorem actClear_cn (t : TypeId) (v : AVal) : CN2 fun _ k => actClear T get t v k := by
  unfold actClear
  split
  · split
    · split
      · split
        · refine CN2.bif _ ?_ .fail
          split
          · exact .ret _ _
          · exact .fail
        · exact .fail
      · exact .ret _ _
      · exact .fail
    · exact .fail
  · exact .fail
theorem actMakeSlice_cn (base : Nat) (t : TypeId) (n c : AVal) : CN2 fun _ k => actMakeSlice T get base t n c k := by
  unfold actMakeSlice
  split
  · split
    · refine CN2.bif _ ?_ .fail
      split
      · exact CN2.ite _ (.ret _ _) .fail
      · exact .fail
    · exact .fail
  · exact .fail
theorem actMax_cn (u v : AVal) : CN fun _ k => actMax u v k := by
  unfold actMax
  split
  · exact CN.ite _ (.ret _) .fail
  · exact .fail
theorem vfindK_cn (K : Ty) (kd : K.den) (z : AVal) : ∀ l : List (K.den × AVal), CN (α := AVal × Bool) fun _ k => vfindK K kd z l fun y b => k (y, b)
  | [] => .ret (z, false)
  | e :: l => CN.bif _ (.ret (e.2, true)) (vfindK_cn K kd z l)
theorem vputK_cn (K : Ty) (kd : K.den) (v : AVal) (l : List (K.den × AVal)) : CN fun _ k => vputK K kd v l k := by
  intro R k z h
  have h : vputK K kd v l k = some z := h
  rw [vputK_eq] at h
  exact ⟨_, h, fun R' k' => vputK_eq _ _ _ _ _⟩
theorem vdelK_cn (K : Ty) (kd : K.den) (l : List (K.den × AVal)) : CN fun _ k => vdelK K kd l k := by
  intro R k z h
  have h : vdelK K kd l k = some z := h
  rw [vdelK_eq] at h
  exact ⟨_, h, fun R' k' => vdelK_eq _ _ _ _⟩
theorem vmapK_cn (t : TypeId) (v u : AVal) {A : (r : Nat) → (K : Ty) → List (K.den × AVal) → K.den → AVal → (R : Type) → (AVal → Ups → Option R) → Option R} (hA : ∀ r K m kd z, CN2 (A r K m kd z)) :
    CN2 fun R k => vmapK T get t v u fun r K m kd z => A r K m kd z R k := by
  unfold vmapK
  split
  · split
    · split
      · split
        · exact CN2.bif _ (hA _ _ _ _ _) .fail
        · exact .fail
      · exact .fail
    · exact .fail
  · exact .fail
theorem actLook_cn (t : TypeId) (v u : AVal) (ok : Bool) : CN2 fun _ k => actLook T get t v u ok k := by
  unfold actLook
  refine CN2.bif _ (vmapK_cn T get t v u fun r K m kd z => ?_) (actLookup_cn T get _ _ _ _)
  exact CN2.bind (B := fun (p : AVal × Bool) R k => bif ok then k (.tup (.cons p.1 (.cons (.dat true .bool p.2) .nil))) [] else k p.1 []) (vfindK_cn K kd z m) fun p => CN2.bif _ (.ret _ _) (.ret _ _)
theorem actMapPut_cn (t : TypeId) (v u y : AVal) : CN2 fun _ k => actMapPut T get t v u y k := by
  unfold actMapPut
  exact CN2.bif _ (vmapK_cn T get t v u fun r K m kd z => CN2.bind (vputK_cn K kd y m) fun m' => .ret _ _) (actMapUpdate_cn T get _ _ _ _)
theorem actDel_cn (t : TypeId) (v u : AVal) : CN2 fun _ k => actDel T get t v u k := by
  unfold actDel
  exact CN2.bif _ (vmapK_cn T get t v u fun r K m kd z => CN2.bind (vdelK_cn K kd m) fun m' => .ret _ _) (actDelete_cn T get _ _ _)
theorem actNewMap_cn (b : Nat) (t : TypeId) : CN2 fun _ k => actNewMap T get b t k := by
  unfold actNewMap
  split
  · split
    · exact actMakeMap_cn T get _ _
    · split
      · exact .ret _ _
      · exact .fail
  · exact .fail
theorem actK_cn {P : Program} {fns : Fns} (hfns : FnsOk P fns) (op : Op) (an : Ann) (ρ : Operand → Option AVal) : CN2 fun R k => actK R T fns op an ρ get k := by
  unfold actK
  split
  · split
    case h_2 => exact .fail
    exact .ret _ _
  · split
    case h_2 => exact .fail
    exact .ret _ _
  · split
    · refine CN2.bif _ ?_ ?_ <;> (split <;> first | exact .ret _ _ | exact .fail)
    · exact .fail
  · split
    case h_2 => exact .fail
    exact actAlloc_cn get _ _
  · split
    case h_2 => exact .fail
    exact actAlloc_cn get _ _
  · split
    case h_2 => exact .fail
    exact actLoad_cn T get _ _
  · split
    · exact actStore_cn T get _ _ _
    · exact .fail
  · split
    case h_2 => exact .fail
    exact actNilCheck_cn get _
  · split
    · exact CN2.plain (CN.bif _ (actNil_cn T get _ _ _) (actBin_cn T get _ _ _ _))
    · exact .fail
  · split
    case h_2 => exact .fail
    exact CN2.plain (actUn_cn _ _)
  · split
    case h_2 => exact .fail
    exact CN2.plain (actConv_cn T _ _ _)
  · split
    case h_2 => exact .fail
    exact actFieldAddr_cn T get _ _ _
  · split
    case h_2 => exact .fail
    exact CN2.plain (actField_cn T _ _ _)
  · split
    · exact CN2.plain (actIndexAddr_cn T get _ _ _)
    · exact .fail
  · split
    · exact CN2.plain (actIndex_cn T _ _ _)
    · exact .fail
  · split
    case h_2 => exact .fail
    exact CN2.bif _ (CN2.plain (actBuild_cn T _ _)) .fail
  · split
    case h_2 => exact .fail
    exact actBuildSlice_cn T get _ _ _ _
  · split
    case h_2 => exact .fail
    exact CN2.plain (actExtract_cn _ _)
  · split
    · exact CN2.plain (actLen_cn T get _ _)
    · exact .fail
  · split
    · refine CN2.plain ?_
      unfold actMin
      split
      · exact CN.ite _ (.ret _) .fail
      · exact .fail
    · exact .fail
  · split
    · exact CN2.plain (actMax_cn _ _)
    · exact .fail
  · split
    · exact actAppend_cn T get _ _ _ _ _
    · exact .fail
  · split
    · exact actClear_cn T get _ _
    · exact .fail
  · split
    · exact CN2.bind (optK_cn _ _) fun l => CN2.bind (optK_cn _ _) fun h => CN2.bind (optK_cn _ _) fun m => actSlice_cn T get _ _ _ _ _ _
    · exact .fail
  · exact actNewMap_cn T get _ _
  · split
    · exact actRange_cn T get _ _ _
    · exact .fail
  · split
    · exact actEntry_cn get _
    · exact .fail
  · split
    · exact actLook_cn T get _ _ _ _
    · exact .fail
  · split
    · split
      · exact actMapPut_cn T get _ _ _ _
      · exact .fail
    · exact .fail
  · split
    · exact actMapEntry_cn T get _ _ _
    · exact .fail
  · split
    · split
      · exact actEntryStore_cn get _ _ _
      · exact .fail
    · exact .fail
  · split
    · exact actDel_cn T get _ _ _
    · exact .fail
  · split
    · exact CN2.bif _ (.ret _ _) (.ret _ _)
    · exact .fail
  · split
    · exact .ret _ _
    · exact .fail
  · split
    · exact actMakeSlice_cn T get _ _ _ _
    · exact .fail
  · split
    · split
      · rename_i F args hF _
        split
        · refine (CN.bind (B := fun (p : AVal × Ups) R (k : AVal × Ups → Option R) => roCall _ get (fun v u => k (v, u)) p.1 p.2) (actCall_cn get (hfns _ _ hF) _ _) fun p => ?_ : CN _)
          unfold roCall roK
          refine CN.bif _ ?_ (.ret _)
          exact @CN.ite _ _ (Classical.propDecidable _) _ _ (.ret _) .fail
        · exact .fail
      · exact .fail
    · exact .fail
  · exact .fail
end
end Go.Am

/- The abstract machine: what only asks for an object's shape does not mind a store. -/
namespace Go.Am

/-- Objects of one shape. -/
inductive Shp : Option AObj → Option AObj → Prop
  | same (a : Option AObj) : Shp a a
  | box {v v' : AVal} (h : v.sh = v'.sh) : Shp (some (.box v)) (some (.box v'))
  | arr {g : Nat} {t : Ty} {xs xs' : List t.den} (h : xs.length = xs'.length) : Shp (some (.arr g t xs)) (some (.arr g t xs'))

def addrOp : Op → Bool
  | .fieldAddr _ _ _ | .indexAddr _ _ _ | .nilCheck _ => true
  | _ => false
def storeOp : Op → Bool
  | .store _ _ _ => true
  | _ => false

section
variable {T : Tbl} {R : Type}

theorem shp_key {get get' : Nat → Option AObj} (h : ∀ r, Shp (get r) (get' r)) (r g : Nat) (G : Sh → Option R) : (match get r with | some ob => (match shapeOf ob g with | some s => G s | none => none) | none => none) = (match get' r with | some ob => (match shapeOf ob g with | some s => G s | none => none) | none => none) := by
  have h := h r
  generalize get r = a at h ⊢
  generalize get' r = b at h ⊢
  cases h with
  | same => rfl
  | box e => simp only [shapeOf, e]
  | arr e => rfl

theorem there_shape {get get' : Nat → Option AObj} (h : ∀ r, Shp (get r) (get' r)) (r g : Nat) (k : Option R) : thereK get r g k = thereK get' r g k := by
  unfold thereK
  have h := h r
  generalize get r = a at h ⊢
  generalize get' r = b at h ⊢
  cases h <;> rfl

theorem fieldAddr_shape {get get' : Nat → Option AObj} (h : ∀ r, Shp (get r) (get' r)) (t : TypeId) (v : AVal) (j : Nat) (k : AVal → Ups → Option R) : actFieldAddr T get t v j k = actFieldAddr T get' t v j k := by
  unfold actFieldAddr
  split
  · split
    · split
      · rename_i fd _
        cases Nat.beq fd.size 0 with
        | true => rfl
        | false =>
          simp only [cond_false]
          split
          · exact shp_key h _ _ _
          · rfl
          · rfl
      · rfl
    · rfl
  · rfl

theorem indexAddr_shape {get get' : Nat → Option AObj} (h : ∀ r, Shp (get r) (get' r)) (t : TypeId) (v i : AVal) (k : AVal → Option R) : actIndexAddr T get t v i k = actIndexAddr T get' t v i k := by
  have row : ∀ (r : Nat) (G : Nat → Ty → Nat → Option R), (match get r with | some (.arr g' τ xs) => G g' τ xs.length | _ => none) = (match get' r with | some (.arr g' τ xs) => G g' τ xs.length | _ => none) := by
    intro r G
    have h := h r
    generalize get r = a at h ⊢
    generalize get' r = b at h ⊢
    cases h with
    | same => rfl
    | box e => rfl
    | arr e => simp only [e]
  unfold actIndexAddr
  split
  · rename_i n _
    split
    · split
      · split
        · exact shp_key h _ _ _
        · rfl
      · rfl
    · split
      · rename_i ed _
        split
        · rename_i r g
          exact row r fun g' τ l => bif Nat.beq g g' && Nat.beq ed.size τ.size then (if 0 ≤ n ∧ n < l then k (.ptr r g [.idx n.toNat]) else none) else none
        · rename_i r g lo len ex
          exact row r fun g' τ _ => bif Nat.beq g g' && Nat.beq ed.size τ.size then (if 0 ≤ n ∧ n < len then k (.ptr r g [.idx (lo + n.toNat)]) else none) else none
        · rfl
        · rfl
      · rfl
    · rfl
  · rfl

theorem addr_shape {fns : Fns} {op : Op} (ha : addrOp op = true) {get get' : Nat → Option AObj} (h : ∀ r, Shp (get r) (get' r)) (an : Ann) (ρ : Operand → Option AVal) (k : AVal → Ups → Option R) : actK R T fns op an ρ get k = actK R T fns op an ρ get' k := by
  cases op <;> simp only [addrOp] at ha <;> try (cases ha; done)
  · simp only [actK]
    split
    · rename_i v _
      unfold actNilCheck
      split
      · exact there_shape h _ _ _
      · rfl
      · rfl
      · rfl
    · rfl
  · simp only [actK]
    split
    · exact fieldAddr_shape h _ _ _ _
    · rfl
  · simp only [actK]
    split
    · exact indexAddr_shape h _ _ _ _
    · rfl

theorem addr_plain {fns : Fns} {op : Op} (ha : addrOp op = true) (get : Nat → Option AObj) (an : Ann) (ρ : Operand → Option AVal) (k : AVal → Ups → Option R) : actK R T fns op an ρ get k = actK R T fns op an ρ get (fun v _ => k v []) := by
  cases op <;> simp only [addrOp] at ha <;> try (cases ha; done)
  · rfl
  · show (match ρ _ with | some v => actFieldAddr T get _ v _ k | none => none) = (match ρ _ with | some v => actFieldAddr T get _ v _ (fun v _ => k v []) | none => none)
    split
    · unfold actFieldAddr
      rfl
    · rfl
  · rfl

theorem setK_sh : ∀ (p : Path) (v u v' : AVal), v.setK p u some = some v' → v'.sh = v.sh := by
  intro p
  induction p with
  | nil =>
    intro v u v' e
    unfold AVal.setK at e
    split at e
    · rename_i h; cases e; exact h
    · cases e
  | cons st p ih =>
    intro v u v' e
    unfold AVal.setK at e
    split at e <;> try cases e
    all_goals (rename_i hst; try cases hst)
    · obtain ⟨y, h1, h2⟩ := setK_inv _ _ _ _ _ e
      cases h2; rw [mkPair_sh, ih _ _ _ h1]; rfl
    · obtain ⟨y, h1, h2⟩ := setK_inv _ _ _ _ _ e
      cases h2; rw [mkPair_sh, ih _ _ _ h1]; rfl
    · obtain ⟨y, h1, h2⟩ := setK_inv _ _ _ _ _ e
      cases h2; rw [mkOne_sh, ih _ _ _ h1]; rfl
    · split at e
      · obtain ⟨y, h1, h2⟩ := setK_inv _ _ _ _ _ e
        split at h2
        · obtain ⟨_, h2⟩ := cond_some h2
          split at h2
          · cases h2; rfl
          · cases h2
        · cases h2
      · cases e
    · obtain ⟨y, h1, h2⟩ := setK_inv _ _ _ _ _ e
      cases h2; rw [mkPair_sh, ih _ _ _ h1]; rfl
    · obtain ⟨y, h1, h2⟩ := setK_inv _ _ _ _ _ e
      cases h2; rw [mkPair_sh, ih _ _ _ h1]; rfl
    · obtain ⟨y, h1, h2⟩ := setK_inv _ _ _ _ _ e
      cases h2; rw [mkOne_sh, ih _ _ _ h1]; rfl

theorem setK_row {n : Nat} {τ : Ty} {xs : List τ.den} {p : Path} (hp : idxPath p = true) {u : AVal} {q : Bool} {n' : Nat} {τ' : Ty} {ys : List τ'.den} (e : (AVal.dat true (.arr n τ) xs).setK p u some = some (.dat q (.arr n' τ') ys)) : τ' = τ ∧ ys.length = xs.length := by
  cases p with
  | nil => cases hp
  | cons s p =>
    cases s with
    | fst => cases hp
    | snd => cases hp
    | one => cases hp
    | idx i =>
      unfold AVal.setK at e
      split at e
      · obtain ⟨y, h1, h2⟩ := setK_inv _ _ _ _ _ e
        split at h2
        · obtain ⟨_, h2⟩ := cond_some h2
          split at h2
          · cases h2; exact ⟨rfl, by simp⟩
          · cases h2
        · cases h2
      · cases e

/-- A store changes one object, to one of its shape. -/
theorem store_shape {fns : Fns} {op : Op} (ha : storeOp op = true) {get : Nat → Option AObj} {an : Ann} {ρ : Operand → Option AVal} {v : AVal} {ups : Ups} (h : actK (AVal × Ups) T fns op an ρ get (fun v u => some (v, u)) = some (v, ups)) :
    ∃ r ob ob', ups = [(r, ob')] ∧ get r = some ob ∧ Shp (some ob) (some ob') := by
  cases op <;> simp only [storeOp] at ha <;> try (cases ha; done)
  simp only [actK] at h
  split at h
  case h_2 => cases h
  unfold actStore at h
  split at h
  case h_2 => cases h
  split at h
  case h_2 => cases h
  rename_i r g p _
  obtain ⟨_, h⟩ := cond_some h
  split at h
  · rename_i b hb
    obtain ⟨b', h1, h2⟩ := setK_inv _ _ _ _ _ h
    obtain ⟨_, h2⟩ := cond_some h2
    cases h2
    exact ⟨_, _, _, rfl, hb, .box (setK_sh _ _ _ _ h1).symm⟩
  · rename_i g' τ xs hb
    obtain ⟨hg, h⟩ := cond_some h
    rw [Bool.and_eq_true] at hg
    obtain ⟨b', h1, h2⟩ := setK_inv _ _ _ _ _ h
    split at h2
    · split at h2
      · rename_i ht
        subst ht
        cases h2
        exact ⟨_, _, _, rfl, hb, .arr (setK_row hg.2 h1).2.symm⟩
      · cases h2
    · cases h2
  · cases h
end
end Go.Am

/- The abstract machine: a lookup and an entry of one map may change places. -/
namespace Go.Am
section
variable {T : Tbl} {R : Type}

/-- Is that a lookup, and that an entry, of one type of maps? -/
def lookEntry (p q : Op) : Bool := match p with
  | .lookup t _ _ false => match q with
    | .mapEntry t' _ _ => Nat.beq t t'
    | _ => false
  | _ => false

theorem lookEntry_inv {p q : Op} (h : lookEntry p q = true) : ∃ t a b c d, p = .lookup t a b false ∧ q = .mapEntry t c d := by
  unfold lookEntry at h
  split at h
  · split at h
    · obtain rfl := Nat.eq_of_beq_eq_true h; exact ⟨_, _, _, _, _, rfl, rfl⟩
    · cases h
  · cases h

theorem mapK_inv {get : Nat → Option AObj} {t : TypeId} {v u : AVal} {k : (r : Nat) → (K V : Ty) → MD K V → K.den → V.den → Option R} {z : R} (h : mapK T get t v u k = some z) :
    ∃ r K V m bs clk kd zd kt et ed, undOf T t = .map kt et ∧ v = .map r ∧ get r = some (.map K V m bs clk) ∧ T et = some ed ∧ toDat K u = some kd ∧ toDat V ed.zero = some zd ∧ keyFits T K kt = true ∧ k r K V (m, bs, clk) kd zd = some z := by
  unfold mapK at h
  split at h
  case h_2 => cases h
  rename_i kt et hut
  split at h
  case h_2 => cases h
  rename_i r
  split at h
  case h_2 => cases h
  rename_i K V m bs clk ed hg hed
  split at h
  case h_2 => cases h
  rename_i kd zd hkd hzd
  obtain ⟨hf, h⟩ := cond_some h
  exact ⟨r, K, V, m, bs, clk, kd, zd, kt, et, ed, hut, rfl, hg, hed, hkd, hzd, hf, h⟩

theorem mapK_mk {get : Nat → Option AObj} {t : TypeId} {u : AVal} {k : (r : Nat) → (K V : Ty) → MD K V → K.den → V.den → Option R} {r : Nat} {K V : Ty} {m : List (K.den × V.den)} {bs : List Nat} {clk : Nat} {kd : K.den} {zd : V.den} {kt et : TypeId} {ed : TD}
    (h1 : undOf T t = .map kt et) (h2 : get r = some (.map K V m bs clk)) (h3 : T et = some ed) (h4 : toDat K u = some kd) (h5 : toDat V ed.zero = some zd) (h6 : keyFits T K kt = true) : mapK T get t (.map r) u k = k r K V (m, bs, clk) kd zd := by
  unfold mapK
  rw [h1]
  simp only [h2, h3, h4, h5, h6, cond_true]

theorem mfind_end {K V : Ty} (k k' : K.den) (z : V.den) : ∀ l : List (K.den × V.den), (mfind K V k (l ++ [(k', z)])).getD z = (mfind K V k l).getD z
  | [] => by
    simp only [List.nil_append, mfind]
    cases K.eqB k k' <;> rfl
  | e :: l => by
    simp only [List.cons_append, mfind]
    cases K.eqB k e.1
    · exact mfind_end k k' z l
    · rfl

theorem mfind_ment {K V : Ty} (k k' : K.den) (z : V.den) (d : MD K V) : (mfind K V k (ment K V k' z d).2.1).getD z = (mfind K V k d.1).getD z := by
  unfold ment
  split
  · rfl
  · exact mfind_end k k' z d.1

/-- A lookup comes to the same behind an entry. -/
theorem look_behind {get get' : Nat → Option AObj} {t : TypeId} {v u v' u' : AVal} {w1 : AVal} {u1 : Ups} (h : ∀ (R : Type) (k : AVal → Ups → Option R), actLookup T get t v u false k = k w1 u1)
    {w2 : AVal} {u2 : Ups} {get0 : Nat → Option AObj} (g : ∀ (R : Type) (k : AVal → Ups → Option R), actMapEntry T get0 t v' u' k = k w2 u2)
    (same : ∀ r ob ob', get r = some ob → get0 r = some ob' → ob = ob') (hother : ∀ r, (∀ p ∈ u2, p.1 ≠ r) → get' r = get r) (hset : ∀ r ob o0, get r = some o0 → u2 = [(r, ob)] → get' r = some ob) :
    u1 = [] ∧ ∀ (R : Type) (k : AVal → Ups → Option R), actLookup T get' t v u false k = k w1 u1 := by
  have h1 := h (AVal × Ups) fun v u => some (v, u)
  have g1 := g (AVal × Ups) fun v u => some (v, u)
  unfold actLookup at h1
  unfold actMapEntry at g1
  obtain ⟨r, K, V, m, bs, clk, kd, zd, kt, et, ed, hut, rfl, hg, hed, hkd, hzd, hf, hh⟩ := mapK_inv h1
  simp only [cond_false, Option.some.injEq, Prod.mk.injEq] at hh
  obtain ⟨rfl, rfl⟩ := hh
  refine ⟨rfl, fun R k => ?_⟩
  obtain ⟨r', K', V', m', bs', clk', kd', zd', kt', et', ed', hut', rfl, hg', hed', hkd', hzd', hf', hh'⟩ := mapK_inv g1
  simp only [Option.some.injEq, Prod.mk.injEq] at hh'
  obtain ⟨_, rfl⟩ := hh'
  rw [hut] at hut'; cases hut'
  rw [hed] at hed'; cases hed'
  unfold actLookup
  by_cases e : r' = r
  · subst e
    have := same _ _ _ hg hg'
    cases this
    rw [hzd] at hzd'; cases hzd'
    rw [mapK_mk hut (hset _ _ _ hg rfl) hed hkd hzd hf]
    simp only [cond_false]
    rw [mfind_ment]
  · rw [mapK_mk hut ((hother r fun p hp => by simp at hp; subst hp; exact e).trans hg) hed hkd hzd hf]
    rfl

/-- A lookup, in a map of either kind, comes to the same behind an entry. -/
theorem look_behind2 {get get' : Nat → Option AObj} {t : TypeId} {v u v' u' : AVal} {w1 : AVal} {u1 : Ups} (h : ∀ (R : Type) (k : AVal → Ups → Option R), actLook T get t v u false k = k w1 u1)
    {w2 : AVal} {u2 : Ups} {get0 : Nat → Option AObj} (g : ∀ (R : Type) (k : AVal → Ups → Option R), actMapEntry T get0 t v' u' k = k w2 u2)
    (same : ∀ r ob ob', get r = some ob → get0 r = some ob' → ob = ob') (hother : ∀ r, (∀ p ∈ u2, p.1 ≠ r) → get' r = get r) (hset : ∀ r ob o0, get r = some o0 → u2 = [(r, ob)] → get' r = some ob) :
    u1 = [] ∧ ∀ (R : Type) (k : AVal → Ups → Option R), actLook T get' t v u false k = k w1 u1 := by
  have g1 := g (AVal × Ups) fun v u => some (v, u)
  unfold actMapEntry at g1
  obtain ⟨r', K', V', m', bs', clk', kd', zd', kt', et', ed', hut', rfl, hg', hed', hkd', hzd', hf', hh'⟩ := mapK_inv g1
  simp only [Option.some.injEq, Prod.mk.injEq] at hh'
  obtain ⟨_, rfl⟩ := hh'
  cases hv : isVmap get v with
  | true =>
    -- the lookup is in another map
    have h1 := h (AVal × Ups) fun v u => some (v, u)
    unfold isVmap at hv
    split at hv
    case h_2 => cases hv
    rename_i r
    split at hv
    case h_2 => cases hv
    rename_i K m hr
    have hne : r' ≠ r := fun e => by
      subst e
      have := same _ _ _ hr hg'
      cases this
    have hgr : get' r = get r := hother r fun p hp => by simp at hp; subst hp; exact hne
    have e : ∀ (R : Type) (k : AVal → Ups → Option R), actLook T get' t (.map r) u false k = actLook T get t (.map r) u false k := fun R k => by
      unfold actLook isVmap vmapK
      simp only [hgr, hr, cond_true]
    refine ⟨?_, fun R k => (e R k).trans (h R k)⟩
    unfold actLook isVmap vmapK at h1
    simp only [hr, cond_true] at h1
    split at h1
    · split at h1
      · split at h1
        · obtain ⟨_, h1⟩ := cond_some h1
          simp only [vfindK_eq] at h1
          split at h1 <;> (simp only [cond_false, Option.some.injEq, Prod.mk.injEq] at h1; exact h1.2.symm)
        · cases h1
      · cases h1
    · cases h1
  | false =>
    have h' : ∀ (R : Type) (k : AVal → Ups → Option R), actLookup T get t v u false k = k w1 u1 := fun R k => by
      have := h R k
      unfold actLook at this
      rw [hv] at this
      exact this
    obtain ⟨e1, e2⟩ := look_behind h' g same hother hset
    refine ⟨e1, fun R k => ?_⟩
    have hv' : isVmap get' v = false := by
      have h1 := e2 (AVal × Ups) fun v u => some (v, u)
      unfold actLookup at h1
      obtain ⟨r, K, V, m, bs, clk, kd, zd, kt, et, ed, hut, rfl, hg, _⟩ := mapK_inv h1
      unfold isVmap
      simp only [hg]
    unfold actLook
    rw [hv']
    exact e2 R k
theorem look_ups {get : Nat → Option AObj} {t : TypeId} {v u : AVal} {w1 : AVal} {u1 : Ups} (h : ∀ (R : Type) (k : AVal → Ups → Option R), actLook T get t v u false k = k w1 u1) : u1 = [] := by
  have h1 := h (AVal × Ups) fun v u => some (v, u)
  unfold actLook at h1
  cases hv : isVmap get v with
  | true =>
    rw [hv, cond_true] at h1
    unfold vmapK at h1
    split at h1
    · split at h1
      · split at h1
        · split at h1
          · obtain ⟨_, h1⟩ := cond_some h1
            simp only [vfindK_eq] at h1
            split at h1 <;> (simp only [cond_false, Option.some.injEq, Prod.mk.injEq] at h1; exact h1.2.symm)
          · cases h1
        · cases h1
      · cases h1
    · cases h1
  | false =>
    rw [hv, cond_false] at h1
    unfold actLookup at h1
    obtain ⟨_, _, _, _, _, _, _, _, _, _, _, _, _, _, _, _, _, _, hh⟩ := mapK_inv h1
    simp only [cond_false, Option.some.injEq, Prod.mk.injEq] at hh
    exact hh.2.symm
end
end Go.Am
