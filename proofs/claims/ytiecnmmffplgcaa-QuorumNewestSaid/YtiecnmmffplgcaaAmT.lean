/- The abstract machine, twentieth part: what an operation comes to does not hang on what is done with it. -/
import Derived.Test.YtiecnmmffplgcaaAmS
namespace Go.Am

/-- What is done with the answer is done with it alone. -/
def CN {α : Type} (A : (R : Type) → (α → Option R) → Option R) : Prop := ∀ (R : Type) (k : α → Option R) (z : R), A R k = some z → ∃ v, k v = some z ∧ ∀ (R' : Type) (k' : α → Option R'), A R' k' = k' v

theorem CN.ret {α : Type} (v : α) : CN fun _ k => k v := fun _ _ _ h => ⟨v, h, fun _ _ => rfl⟩
theorem CN.fail {α : Type} : CN (α := α) fun _ _ => none := fun _ _ _ h => by cases h
theorem CN.bif {α : Type} (c : Bool) {A B : (R : Type) → (α → Option R) → Option R} (hA : CN A) (hB : CN B) : CN fun R k => bif c then A R k else B R k := by
  cases c
  · exact hB
  · exact hA
theorem CN.ite {α : Type} (c : Prop) [Decidable c] {A B : (R : Type) → (α → Option R) → Option R} (hA : CN A) (hB : CN B) : CN fun R k => if c then A R k else B R k := by
  by_cases h : c
  · simp only [h, if_true]; exact hA
  · simp only [h, if_false]; exact hB
theorem CN.dite {α : Type} (c : Prop) [Decidable c] {A : c → (R : Type) → (α → Option R) → Option R} (hA : ∀ h, CN (A h)) : CN fun R k => if h : c then A h R k else none := by
  by_cases h : c
  · simp only [h, dite_true]; exact hA h
  · simp only [h, dite_false]; exact .fail
/-- One behind the other. -/
theorem CN.bind {α β : Type} {A : (R : Type) → (α → Option R) → Option R} (hA : CN A) {B : α → (R : Type) → (β → Option R) → Option R} (hB : ∀ v, CN (B v)) : CN fun R k => A R fun v => B v R k := by
  intro R k z h
  obtain ⟨v, h1, h2⟩ := hA _ _ _ h
  obtain ⟨u, h3, h4⟩ := hB v _ _ _ h1
  exact ⟨u, h3, fun R' k' => (h2 R' _).trans (h4 R' k')⟩

theorem getK_cn : ∀ (p : Path) (v : AVal), CN fun _ k => v.getK p k := by
  intro p
  induction p with
  | nil => intro v; exact .ret v
  | cons st p ih =>
    intro v
    cases v with
    | dat q t d =>
      cases t <;> cases st <;> first
        | exact ih _
        | exact .fail
        | (simp only [AVal.getK]
           split
           · exact ih _
           · exact .fail)
    | pair a b => cases st <;> first | exact ih _ | exact .fail
    | one a => cases st <;> first | exact ih _ | exact .fail
    | _ => cases st <;> exact .fail

theorem setK_cn : ∀ (p : Path) (v u : AVal), CN fun _ k => v.setK p u k := by
  intro p
  induction p with
  | nil => intro v u; exact CN.ite _ (.ret u) .fail
  | cons st p ih =>
    intro v u
    cases v with
    | dat q t d =>
      cases t <;> cases st <;> first
        | exact CN.bind (ih _ _) fun y => .ret _
        | exact .fail
        | (simp only [AVal.setK]
           split
           · refine CN.bind (ih _ _) fun y => ?_
             cases y with
             | dat q' t' y' => exact CN.bif _ (CN.dite _ fun h => .ret _) .fail
             | _ => exact .fail
           · exact .fail)
    | pair a b => cases st <;> first | exact CN.bind (ih _ _) fun y => .ret _ | exact .fail
    | one a => cases st <;> first | exact CN.bind (ih _ _) fun y => .ret _ | exact .fail
    | _ => cases st <;> exact .fail

/-- The answer of an operation: a value and what objects are now. -/
def CN2 (A : (R : Type) → (AVal → Ups → Option R) → Option R) : Prop := CN (α := AVal × Ups) fun R k => A R fun v u => k (v, u)

theorem CN2.ret (v : AVal) (u : Ups) : CN2 fun _ k => k v u := CN.ret (v, u)
theorem CN2.fail : CN2 fun _ _ => none := CN.fail
theorem CN2.bif (c : Bool) {A B : (R : Type) → (AVal → Ups → Option R) → Option R} (hA : CN2 A) (hB : CN2 B) : CN2 fun R k => bif c then A R k else B R k := CN.bif c hA hB
theorem CN2.ite (c : Prop) [Decidable c] {A B : (R : Type) → (AVal → Ups → Option R) → Option R} (hA : CN2 A) (hB : CN2 B) : CN2 fun R k => if c then A R k else B R k := CN.ite c hA hB
theorem CN2.dite (c : Prop) [Decidable c] {A : c → (R : Type) → (AVal → Ups → Option R) → Option R} (hA : ∀ h, CN2 (A h)) : CN2 fun R k => if h : c then A h R k else none := CN.dite c hA
/-- An operation that leaves the objects alone. -/
theorem CN2.plain {A : (R : Type) → (AVal → Option R) → Option R} (hA : CN A) : CN2 fun R k => A R fun v => k v [] := CN.bind hA fun v => .ret (v, [])
theorem CN2.bind {β : Type} {A : (R : Type) → (β → Option R) → Option R} (hA : CN A) {B : β → (R : Type) → (AVal → Ups → Option R) → Option R} (hB : ∀ v, CN2 (B v)) : CN2 fun R k => A R fun v => B v R k := CN.bind hA hB

section
variable (T : Tbl) (get : Nat → Option AObj)

theorem rootK_cn (r g : Nat) : CN fun _ k => rootK get r g k := by
  unfold rootK
  cases get r with
  | none => exact .fail
  | some o => cases o with
    | box b => exact .ret b
    | arr g' τ xs => exact CN.bif _ (.ret _) .fail
    | _ => exact .fail

theorem actLoad_cn (t : TypeId) (v : AVal) : CN2 fun _ k => actLoad T get t v k := by
  unfold actLoad
  split
  case h_2 => exact .fail
  cases v with
  | ptr r g p => exact CN2.bind (rootK_cn get r g) fun b => CN2.bind (getK_cn p b) fun u => CN2.bif _ (.ret _ _) .fail
  | ref q τ y => exact CN2.bif _ (.ret _ _) .fail
  | _ => exact .fail

theorem actStore_cn (t : TypeId) (v u : AVal) : CN2 fun _ k => actStore T get t v u k := by
  unfold actStore
  split
  case h_2 => exact .fail
  cases v with
  | ptr r g p =>
    refine CN2.bif _ ?_ .fail
    cases get r with
    | none => exact .fail
    | some o => cases o with
      | box b => exact CN2.bind (setK_cn p b u) fun b' => CN2.bif _ (.ret _ _) .fail
      | arr g' τ xs =>
        refine CN2.bif _ (CN2.bind (setK_cn p _ u) fun y => ?_) .fail
        cases y with
        | dat q t y =>
          cases q <;> cases t <;> first | exact CN2.dite _ fun h => .ret _ _ | exact .fail
        | _ => exact .fail
      | _ => exact .fail
  | _ => exact .fail

theorem actAlloc_cn (base : Nat) (v : AVal) : CN2 fun _ k => actAlloc get base v k := by
  unfold actAlloc
  cases get base with
  | none => exact .fail
  | some o => cases o with
    | free => exact CN2.bif _ (.ret _ _) .fail
    | _ => exact .fail

theorem actFieldAddr_cn (t : TypeId) (v : AVal) (j : Nat) : CN2 fun _ k => actFieldAddr T get t v j k := by
  unfold actFieldAddr
  split
  case h_2 => exact .fail
  split
  case h_2 => exact .fail
  split
  case h_2 => exact .fail
  refine CN2.bif _ .fail ?_
  split
  · split
    case h_2 => exact .fail
    split
    case h_2 => exact .fail
    split
    case h_2 => exact .fail
    exact CN2.bif _ (.ret _ _) .fail
  · refine CN2.bif _ (CN2.bind (getK_cn _ _) fun z => ?_) .fail
    split
    · exact CN2.bif _ (.ret _ _) .fail
    · exact .fail
  · exact .fail

theorem binEq_cn (op : BinOp) (r : Bool) : CN fun _ k => binEq op r k := by cases op <;> first | exact .ret _ | exact .fail

theorem binInt_cn (op : BinOp) (kd : IntKind) (a b : Int) : CN fun _ k => binInt op kd a b k := by
  cases op <;> first | exact .ret _ | exact .fail | exact CN.ite _ .fail (.ret _)

theorem shiftInt_cn (op : BinOp) (kd : IntKind) (a b : Int) : CN fun _ k => shiftInt op kd a b k := by
  cases op <;> first | exact .fail | exact CN.ite _ .fail (.ret _)

theorem binStr_cn (op : BinOp) (a b : ByteArray) : CN fun _ k => binStr op a b k := by
  cases op <;> first | exact .ret _ | exact .fail | exact CN.ite _ (.ret _) .fail

theorem thereK_cn (r g : Nat) {A : (R : Type) → (AVal → Option R) → Option R} (hA : CN A) : CN fun R k => thereK get r g (A R k) := by
  unfold thereK
  cases get r with
  | none => exact .fail
  | some o => cases o with
    | box b => exact hA
    | arr g' τ xs => exact CN.bif _ hA .fail
    | _ => exact .fail

theorem actBin_cn (op : BinOp) (t : TypeId) (u v : AVal) : CN fun _ k => actBin T get op t u v k := by
  unfold actBin
  split
  · cases op <;> first | exact shiftInt_cn _ _ _ _ | exact CN.ite _ (binInt_cn _ _ _ _) .fail
  · cases undOf T t <;> first | exact binEq_cn _ _ | exact .fail
  · exact binStr_cn _ _ _
  · exact CN.dite _ fun h => CN.bif _ (binEq_cn _ _) .fail
  · cases undOf T t <;> first | exact binEq_cn _ _ | exact .fail
  · cases undOf T t <;> first | exact thereK_cn get _ _ (binEq_cn _ _) | exact .fail
  · cases undOf T t <;> first | exact thereK_cn get _ _ (binEq_cn _ _) | exact .fail
  · cases undOf T t <;> first | exact binEq_cn _ _ | exact .fail
  · exact .fail

theorem actNil_cn (op : BinOp) (t : TypeId) (u : AVal) : CN fun _ k => actNil T get op t u k := by
  unfold actNil
  split
  · split
    · exact CN.bif _ .fail (binEq_cn _ _)
    · split <;> first | exact CN.bif _ (binEq_cn _ _) .fail | exact .fail
    · split <;> first | exact CN.bif _ (binEq_cn _ _) .fail | exact .fail
    · exact .fail
  · exact .fail

theorem mapK_cn (t : TypeId) (v u : AVal) {A : (r : Nat) → (K V : Ty) → MD K V → K.den → V.den → (R : Type) → (AVal → Ups → Option R) → Option R} (hA : ∀ r K V d kd z, CN2 (A r K V d kd z)) :
    CN2 fun R k => mapK T get t v u fun r K V d kd z => A r K V d kd z R k := by
  unfold mapK
  split
  · split
    · split
      · split
        · exact CN2.bif _ (hA _ _ _ _ _ _) .fail
        · exact .fail
      · exact .fail
    · exact .fail
  · exact .fail

theorem actMakeMap_cn (b : Nat) (t : TypeId) : CN2 fun _ k => actMakeMap T get b t k := by
  unfold actMakeMap
  split
  · split
    · exact .ret _ _
    · exact .fail
  · exact .fail

theorem actRange_cn (b : Nat) (t : TypeId) (v : AVal) : CN2 fun _ k => actRange T get b t v k := by
  unfold actRange
  split
  · split
    · split
      · exact .ret _ _
      · exact .fail
    · exact .fail
  · exact .fail

theorem actEntry_cn (v : AVal) : CN2 fun _ k => actEntry get v k := by
  unfold actEntry
  split
  · split
    · split
      · refine CN2.bif _ ?_ .fail
        unfold entP
        split
        · split
          · exact .ret _ _
          · exact .fail
        · exact .fail
      · exact .fail
    · exact .fail
  · exact .fail

theorem actLookup_cn (t : TypeId) (v u : AVal) (ok : Bool) : CN2 fun _ k => actLookup T get t v u ok k := by
  unfold actLookup
  exact mapK_cn T get t v u fun _ _ _ _ _ _ => CN2.bif _ (.ret _ _) (.ret _ _)

theorem actMapUpdate_cn (t : TypeId) (v u y : AVal) : CN2 fun _ k => actMapUpdate T get t v u y k := by
  unfold actMapUpdate
  refine mapK_cn T get t v u fun _ _ _ _ _ _ => ?_
  split
  · exact .ret _ _
  · exact .fail

theorem actMapEntry_cn (t : TypeId) (v u : AVal) : CN2 fun _ k => actMapEntry T get t v u k := by
  unfold actMapEntry
  exact mapK_cn T get t v u fun _ _ _ _ _ _ => .ret _ _

theorem actEntryStore_cn (v s y : AVal) : CN2 fun _ k => actEntryStore get v s y k := by
  unfold actEntryStore
  split
  · split
    · split
      · split
        · exact .ret _ _
        · exact .fail
      · exact .fail
    · exact .fail
  · exact .fail

theorem actDelete_cn (t : TypeId) (v u : AVal) : CN2 fun _ k => actDelete T get t v u k := by
  unfold actDelete
  exact mapK_cn T get t v u fun _ _ _ _ _ _ => .ret _ _

theorem actUn_cn (op : UnOp) (v : AVal) : CN fun _ k => actUn op v k := by
  unfold actUn
  split <;> first | exact .ret _ | exact .fail

theorem actConv_cn (s d : TypeId) (v : AVal) : CN fun _ k => actConv T s d v k := by
  unfold actConv
  split <;> first | exact .ret _ | exact .fail

theorem actField_cn (t : TypeId) (v : AVal) (j : Nat) : CN fun _ k => actField T t v j k := by
  unfold actField
  split
  · split
    · split
      case h_2 => exact .fail
      refine CN.bif _ (CN.bind (getK_cn _ _) fun u => CN.bif _ (.ret _) .fail) .fail
    · exact .fail
  · exact .fail

theorem actIndex_cn (t : TypeId) (v i : AVal) : CN fun _ k => actIndex T t v i k := by
  unfold actIndex
  split
  · split
    · exact CN.ite _ (.ret _) .fail
    · exact .fail
  · split
    · split
      case h_2 => exact .fail
      refine CN.bif _ (CN.ite _ ?_ .fail) .fail
      split <;> first | exact .ret _ | exact .fail
    · exact .fail
  · exact .fail

theorem actIndexAddr_cn (t : TypeId) (v i : AVal) : CN fun _ k => actIndexAddr T get t v i k := by
  unfold actIndexAddr
  split
  case h_2 => exact .fail
  split
  · split
    case h_2 => exact .fail
    split
    · split
      case h_2 => exact .fail
      split
      case h_2 => exact .fail
      split
      · exact CN.bif _ (CN.ite _ (.ret _) .fail) .fail
      · exact .fail
    · exact .fail
  · split
    case h_2 => exact .fail
    split
    · split
      · exact CN.bif _ (CN.ite _ (.ret _) .fail) .fail
      · exact .fail
    · split
      · exact CN.bif _ (CN.ite _ (.ret _) .fail) .fail
      · exact .fail
    · refine CN.bif _ (CN.ite _ ?_ .fail) .fail
      split <;> first | exact .ret _ | exact .fail
    · exact .fail
  · exact .fail

theorem buildK_cn (fs : List (Nat × TypeId)) (n : Nat) : ∀ (ps : List (Nat × AVal)) (acc : AVal), CN fun _ k => buildK T fs n acc ps k := by
  intro ps
  induction ps with
  | nil => intro acc; exact .ret acc
  | cons p ps ih =>
    intro acc
    obtain ⟨j, u⟩ := p
    unfold buildK
    split
    · split
      case h_2 => exact .fail
      exact CN.bif _ (CN.bind (setK_cn _ _ _) fun acc' => ih acc') .fail
    · exact .fail

theorem buildArrK_cn (es : Nat) : ∀ (ps : List (Nat × AVal)) (acc : AVal), CN fun _ k => buildArrK es acc ps k := by
  intro ps
  induction ps with
  | nil => intro acc; exact .ret acc
  | cons p ps ih =>
    intro acc
    obtain ⟨j, u⟩ := p
    unfold buildArrK
    exact CN.bif _ (CN.bind (setK_cn _ _ _) fun acc' => ih acc') .fail

theorem actBuild_cn (t : TypeId) (ps : List (Nat × AVal)) : CN fun _ k => actBuild T t ps k := by
  unfold actBuild
  split
  case h_2 => exact .fail
  refine CN.bif _ ?_ .fail
  split
  · exact CN.bind (buildK_cn T _ _ ps _) fun u => CN.bif _ (.ret _) .fail
  · split
    case h_2 => exact .fail
    split
    · exact CN.bif _ (CN.bind (buildArrK_cn _ ps _) fun u => CN.bif _ (.ret _) .fail) .fail
    · exact .fail
  · exact .fail

theorem actBuildSlice_cn (base : Nat) (t : TypeId) (n : Nat) (ps : List (Nat × AVal)) : CN2 fun _ k => actBuildSlice T get base t n ps k := by
  unfold actBuildSlice
  split
  · split
    · split
      · refine CN2.bif _ (CN2.bind (buildArrK_cn _ _ _) fun v => ?_) .fail
        split
        · exact CN2.bif _ (.ret _ _) .fail
        · exact .fail
      · exact .fail
    · exact .fail
  · exact .fail
theorem actExtract_cn (v : AVal) (j : Nat) : CN fun _ k => actExtract v j k := by
  unfold actExtract
  cases v with
  | tup vs =>
    simp only
    induction vs generalizing j with
    | cons a b iha ihb => cases j with
      | zero => exact .ret a
      | succ j => exact ihb j
    | _ => exact .fail
  | _ => exact .fail

theorem actLen_cn (t : TypeId) (v : AVal) : CN fun _ k => actLen T get t v k := by
  unfold actLen
  split <;> split <;> first
    | exact .ret _
    | exact .fail
    | (split <;> first | exact .ret _ | exact .fail | exact CN.bif _ (.ret _) .fail)

theorem actNilCheck_cn (v : AVal) : CN2 fun _ k => actNilCheck get v (k v []) := by
  unfold actNilCheck
  cases v with
  | ptr r g p => exact CN2.plain (A := fun R k => thereK get r g (k (.ptr r g p))) (thereK_cn get r g (.ret _))
  | ref own τ y => exact .ret _ _
  | fn i c => exact .ret _ _
  | _ => exact .fail

theorem actCall_cn {P : Program} {f : FuncId} {F : Fun} (hF : FunOk P f F) (an : Ann) (args : List AVal) : CN2 fun _ k => actCall get an F args k := by
  unfold actCall
  split
  · refine CN2.bif _ ?_ .fail
    have hc : ∀ (l : List AVal) (os : List AObj), CN (α := AVal × List AObj) fun R k => F R l os fun r o => k (r, o) := by
      intro l os R k z h
      obtain ⟨ret, objs', h1, h2, _⟩ := hF.run _ _ _ _ _ h
      exact ⟨(ret, objs'), h1, fun R' k' => h2 R' fun r o => k' (r, o)⟩
    rename_i objs args1 bor _ _
    exact CN2.bind (hc _ _) (B := fun p R k => bif leftFits an objs p.2 bor p.1 then k (AVal.refs (backName an.loc (objs.map genOf) an.base) p.1) ((an.loc ++ List.range' an.base an.fresh).zip ((List.range (an.loc.length + an.fresh)).map fun i => backObj (backName an.loc (objs.map genOf) an.base) ((objs.map genOf).getD i 0) (p.2.getD i .free))) else none) fun p => CN2.bif _ (.ret _ _) .fail
  · exact .fail

theorem boundK_cn (o : Option AVal) (d y : Nat) : CN fun _ k => boundK o d y k := by
  unfold boundK
  split
  · exact .ret _
  · exact CN.ite _ (.ret _) .fail
  · exact .fail
theorem actSliceStr_cn (t : TypeId) (v : AVal) (l h : Option AVal) : CN fun _ k => actSliceStr T t v l h k := by
  unfold actSliceStr
  split
  · split
    · exact CN.bind (boundK_cn _ _ _) fun hh => CN.bind (boundK_cn _ _ _) fun ll => .ret _
    · exact .fail
  · exact .fail
theorem optK_cn (ρ : Operand → Option AVal) (o : Option Operand) : CN fun _ k => optK ρ o k := by
  unfold optK
  split
  · exact .ret _
  · split
    · exact .ret _
    · exact .fail
theorem boundsK_cn (len top : Nat) (l h m : Option AVal) : CN (α := Nat × Nat × Option Nat) fun _ k => boundsK len top l h m fun a b c => k (a, b, c) := by
  unfold boundsK
  split
  · exact CN.bind (boundK_cn _ _ _) fun hh => CN.bind (boundK_cn _ _ _) fun ll => .ret (ll, hh, none)
  · split
    · exact .fail
    · exact CN.bind (boundK_cn _ _ _) fun mm => CN.bind (boundK_cn _ _ _) fun hh => CN.bind (boundK_cn _ _ _) fun ll => .ret (ll, hh, some mm)
/-- Bounds, and what is done with them. -/
theorem CN2.bounds {len top : Nat} {l h m : Option AVal} {B : Nat → Nat → Option Nat → (R : Type) → (AVal → Ups → Option R) → Option R} (hB : ∀ a b c, CN2 (B a b c)) : CN2 fun R k => boundsK len top l h m fun a b c => B a b c R k :=
  CN2.bind (boundsK_cn len top l h m) (B := fun p => B p.1 p.2.1 p.2.2) fun p => hB _ _ _
theorem srcK_cn (v : AVal) (τ : Ty) : CN fun _ k => srcK get v τ k := by
  unfold srcK
  split
  · split
    · exact CN.bif _ (CN.dite _ fun h => .ret _) .fail
    · exact .fail
  · split
    · exact CN.bif _ (CN.dite _ fun h => .ret _) .fail
    · exact .fail
  · exact CN.bif _ (CN.dite _ fun h => .ret _) .fail
  · exact .ret _
  · exact .fail
theorem actAppend_cn (base : Nat) (t tx : TypeId) (s v : AVal) : CN2 fun _ k => actAppend T get base t tx s v k := by
  unfold actAppend
  split
  · split
    · refine CN2.bif _ ?_ .fail
      split
      · split
        · exact CN2.bif _ (CN2.bind (srcK_cn get v _) fun ys => CN2.ite _ (.ret _ _) .fail) .fail
        · exact .fail
      · split
        · exact CN2.bif _ (CN2.bind (srcK_cn get v _) fun ys => CN2.ite _ (.ret _ _) .fail) .fail
        · exact .fail
      · split
        · exact CN2.bif _ (CN2.bind (srcK_cn get v _) fun ys => CN2.ite _ (.ret _ _) .fail) .fail
        · exact .fail
      · split
        · exact CN2.bif _ (CN2.bind (srcK_cn get v _) fun ys => CN2.ite _ (.ret _ _) .fail) .fail
        · exact .fail
      · exact .fail
    · exact .fail
  · exact .fail
theorem actSlice_cn (mode : Nat) (t : TypeId) (v : AVal) (l h m : Option AVal) : CN2 fun _ k => actSlice T get mode t v l h m k := by
  unfold actSlice
  split
  · split
    · split
      · split
        · refine CN2.bif _ (CN2.bounds fun a b c => ?_) .fail
          cases c with
          | none => exact CN2.bif _ (.ret _ _) (.ret _ _)
          | some c => exact CN2.ite _ (.ret _ _) .fail
        · exact .fail
      · split
        · refine CN2.bif _ (CN2.bounds fun a b c => ?_) .fail
          cases c with
          | none => exact CN2.bif _ .fail (.ret _ _)
          | some c => exact CN2.ite _ (.ret _ _) .fail
        · exact .fail
      · refine CN2.bif _ (CN2.bounds fun a b c => ?_) .fail
        cases c with
        | none => exact .ret _ _
        | some c => exact CN2.ite _ (.ret _ _) .fail
      · exact CN2.bounds fun a b c => .ret _ _
      · exact .fail
    · exact .fail
  · split
    · exact CN2.plain (actSliceStr_cn T _ _ _ _)
    · exact .fail
  · exact .fail
theorem actMakeSlice_cn (base : Nat) (t : TypeId) (n c : AVal) : CN2 fun _ k => actMakeSlice T get base t n c k := by
  unfold actMakeSlice
  split
  · split
    · refine CN2.bif _ ?_ .fail
      split
      · exact CN2.ite _ (.ret _ _) .fail
      · exact .fail
    · exact .fail
  · exact .fail
theorem actMax_cn (u v : AVal) : CN fun _ k => actMax u v k := by
  unfold actMax
  split
  · exact CN.ite _ (.ret _) .fail
  · exact .fail
theorem actK_cn {P : Program} {fns : Fns} (hfns : FnsOk P fns) (op : Op) (an : Ann) (ρ : Operand → Option AVal) : CN2 fun R k => actK R T fns op an ρ get k := by
  unfold actK
  split
  · split
    case h_2 => exact .fail
    exact .ret _ _
  · split
    case h_2 => exact .fail
    exact .ret _ _
  · split
    · refine CN2.bif _ ?_ ?_ <;> (split <;> first | exact .ret _ _ | exact .fail)
    · exact .fail
  · split
    case h_2 => exact .fail
    exact actAlloc_cn get _ _
  · split
    case h_2 => exact .fail
    exact actAlloc_cn get _ _
  · split
    case h_2 => exact .fail
    exact actLoad_cn T get _ _
  · split
    · exact actStore_cn T get _ _ _
    · exact .fail
  · split
    case h_2 => exact .fail
    exact actNilCheck_cn get _
  · split
    · exact CN2.plain (CN.bif _ (actNil_cn T get _ _ _) (actBin_cn T get _ _ _ _))
    · exact .fail
  · split
    case h_2 => exact .fail
    exact CN2.plain (actUn_cn _ _)
  · split
    case h_2 => exact .fail
    exact CN2.plain (actConv_cn T _ _ _)
  · split
    case h_2 => exact .fail
    exact actFieldAddr_cn T get _ _ _
  · split
    case h_2 => exact .fail
    exact CN2.plain (actField_cn T _ _ _)
  · split
    · exact CN2.plain (actIndexAddr_cn T get _ _ _)
    · exact .fail
  · split
    · exact CN2.plain (actIndex_cn T _ _ _)
    · exact .fail
  · split
    case h_2 => exact .fail
    exact CN2.bif _ (CN2.plain (actBuild_cn T _ _)) .fail
  · split
    case h_2 => exact .fail
    exact actBuildSlice_cn T get _ _ _ _
  · split
    case h_2 => exact .fail
    exact CN2.plain (actExtract_cn _ _)
  · split
    · exact CN2.plain (actLen_cn T get _ _)
    · exact .fail
  · split
    · refine CN2.plain ?_
      unfold actMin
      split
      · exact CN.ite _ (.ret _) .fail
      · exact .fail
    · exact .fail
  · split
    · exact CN2.plain (actMax_cn _ _)
    · exact .fail
  · split
    · exact actAppend_cn T get _ _ _ _ _
    · exact .fail
  · split
    · exact CN2.bind (optK_cn _ _) fun l => CN2.bind (optK_cn _ _) fun h => CN2.bind (optK_cn _ _) fun m => actSlice_cn T get _ _ _ _ _ _
    · exact .fail
  · exact actMakeMap_cn T get _ _
  · split
    · exact actRange_cn T get _ _ _
    · exact .fail
  · split
    · exact actEntry_cn get _
    · exact .fail
  · split
    · exact actLookup_cn T get _ _ _ _
    · exact .fail
  · split
    · split
      · exact actMapUpdate_cn T get _ _ _ _
      · exact .fail
    · exact .fail
  · split
    · exact actMapEntry_cn T get _ _ _
    · exact .fail
  · split
    · split
      · exact actEntryStore_cn get _ _ _
      · exact .fail
    · exact .fail
  · split
    · exact actDelete_cn T get _ _ _
    · exact .fail
  · split
    · exact CN2.bif _ (.ret _ _) (.ret _ _)
    · exact .fail
  · split
    · exact .ret _ _
    · exact .fail
  · split
    · exact actMakeSlice_cn T get _ _ _ _
    · exact .fail
  · split
    · split
      · rename_i F args hF _
        split
        · refine (CN.bind (B := fun (p : AVal × Ups) R (k : AVal × Ups → Option R) => roCall _ get (fun v u => k (v, u)) p.1 p.2) (actCall_cn get (hfns _ _ hF) _ _) fun p => ?_ : CN _)
          unfold roCall roK
          refine CN.bif _ ?_ (.ret _)
          exact @CN.ite _ _ (Classical.propDecidable _) _ _ (.ret _) .fail
        · exact .fail
      · exact .fail
    · exact .fail
  · exact .fail
end
end Go.Am
