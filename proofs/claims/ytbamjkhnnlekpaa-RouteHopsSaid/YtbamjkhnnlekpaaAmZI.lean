/- The abstract machine: ZD ZE ZF ZG ZH ZI. -/
import Derived.Test.YtbamjkhnnlekpaaAmZC
import Derived.RowKit3
import Derived.ChangeSame
import Derived.OpenShut
import Derived.ChangeStays
import Derived.SizedLaws
/- The abstract machine, thirtieth part: a law, from the run of its function. -/
namespace Go.Am
open Go.ChangeShapes Go.WideShapes

section
variable {P : Program}

/-- Behind the call: what was there is as it was. -/
structure Calm (W W' : World) : Prop where
  kept : W.keptBut W' (fun _ => False)
  heap : ∀ b, b < W.heap.size → W'.heap[b]? = W.heap[b]?
  size : W.heap.size ≤ W'.heap.size

theorem calm_of_goes {W W' : World} {x x' : Ctx} (G : Goes x W x' W') (hno : ∀ b, ¬ Owned x b) : Calm W W' := by
  refine ⟨⟨G.os, G.output, fun i hi => ?_⟩, fun b hb => G.frame b hb (hno b), G.size⟩
  rw [G.frame i hi (hno i)]
  have : W.heap[i]? = some W.heap[i] := by simp [hi]
  rw [this]
  cases W.heap[i] with
  | cells c t fr => exact ⟨rfl, rfl, rfl, fun _ _ => rfl⟩
  | map es clock => exact .inr ⟨rfl, rfl⟩
  | _ => rfl

theorem Calm.frozen {W W' : World} (h : Calm W W') (a : Addr) (ha : a.block < W.heap.size) : W'.frozen? a = W.frozen? a := by
  unfold World.frozen?
  rw [h.heap _ ha]

/-- The state in which a law is called: all that is there may be read by anyone. -/
def ctx0 (W : World) : Ctx := ⟨fun b => W.heap[b]?, fun _ b => b < W.heap.size, fun _ => none, [], fun _ _ => none, fun _ => false⟩

/-- All that is there, and no pool. -/
def Fz.low (n : Nat) : Fz := ⟨fun b => b < n, fun _ _ => none⟩

theorem ctx0_obj (W : World) (r : Nat) : (ctx0 W).obj r = .free := by
  unfold Ctx.obj ctx0 objAt
  split <;> rfl

theorem ctx0_mem (W : World) : Mem (ctx0 W) := by
  have ho : ∀ r, (ctx0 W).obj r = .free := ctx0_obj W
  refine ⟨fun r => ?_, fun r r' a a' _ l _ _ _ => ?_, fun p b hb => ⟨?_, fun r a l _ => ?_⟩, fun b hb => ?_, by simp [ctx0]⟩
  · rw [ho]; trivial
  · rw [ho] at l; cases l
  · show (W.heap[b]?).isSome = true
    simpa using (show b < W.heap.size from hb)
  · rw [ho] at l; cases l
  · exact hb

/-- What lies there is no one's to write. -/
theorem ctx0_own {W : World} {t : Ty} {d : t.den} {u : Value} (h : (AVal.dat false t d).V (ctx0 W) u) : (AVal.dat true t d).V (ctx0 W) u := h

theorem law_calls {f : FuncId} {fi : Fr} {plain : fi.den → Option (altsDen [(.d true .bool, [])])} (ok : FunOk P f (funOfA fi [(.d true .bool, [])] plain)) {y : fi.den} (hy : fi.dec (fi.vs y) [] = some y) (h : plain y = some true) {W : World} {vals : Array Value}
    (ha : All2 (fun v u => v.V (ctx0 W) u) (fi.vs y) vals.toList) : Calls P f vals W fun e W' => e = .returned (.bool true) ∧ Calm W W' := by
  obtain ⟨ret, objs', h1, _, h2⟩ := ok.run (AVal × List AObj) (fi.vs y) [] (fun v os => some (v, os)) (.dat true .bool true, []) (by
    unfold funOfA
    simp only [hy, h]; rfl)
  cases h1
  refine (h2 (ctx0 W) W vals (ctx0_mem W) rfl rfl ha).mono fun e W' hq => ?_
  obtain ⟨v, x', rfl, G, _, hv⟩ := hq
  rw [V_bool.1 hv]
  refine ⟨rfl, calm_of_goes G fun b hb => ?_⟩
  obtain ⟨r, a, l, _⟩ := hb
  have : (ctx0 W).obj r = .free := ctx0_obj W r
  rw [this] at l; cases l
/-- The state in which a law is called that makes things in any number. -/
def ctxP (W : World) (t : Ty) : Ctx := ⟨fun b => W.heap[b]?, fun _ b => b < W.heap.size, fun _ => none, [.pool t []], fun _ _ => none, fun p => Nat.beq p 0⟩

theorem ctxP_obj (W : World) (t : Ty) (r : Nat) : (ctxP W t).obj r = if r = 0 then .pool t [] else .free := by
  by_cases h : r < 64
  · show objAt _ r = _
    rw [objAt_low h]
    cases r with
    | zero => rfl
    | succ r => rfl
  · rw [if_neg (by omega), obj_virt _ (by omega)]
    by_cases e : r % 64 = 0
    · have : (ctxP W t).obj (r % 64) = .pool t [] := by rw [e]; rfl
      rw [this]; rfl
    · have : (ctxP W t).obj (r % 64) = .free := by
        show objAt _ (r % 64) = _
        rw [objAt_low (Nat.mod_lt _ (by omega))]
        cases hr : r % 64 with
        | zero => exact (e hr).elim
        | succ q => rfl
      rw [this]; rfl

theorem ctxP_mem (W : World) (t : Ty) : Mem (ctxP W t) := by
  refine ⟨fun r => ?_, fun r r' a a' _ _ _ m _ => (by cases m), fun p b hb => ⟨?_, fun r a _ m => (by cases m)⟩, fun b hb => hb, (by show 1 ≤ 64; omega)⟩
  · rw [ctxP_obj]
    by_cases e : r = 0
    · subst e
      rw [if_pos rfl]
      exact ⟨rfl, by omega, rfl, fun j hj => absurd hj (Nat.not_lt_zero _), fun _ _ => rfl⟩
    · rw [if_neg e]; trivial
  · show (W.heap[b]?).isSome = true
    simpa using (show b < W.heap.size from hb)

theorem law_calls_pool {f : FuncId} {fi : Fr} {t : Ty} {plain : fi.den → Option (altsDen [(.d true .bool, [.pool t])])} (ok : FunOk P f (funOfA fi [(.d true .bool, [.pool t])] plain)) {y : fi.den} (hy : fi.dec (fi.vs y) [.pool t []] = some y) {xs : List t.den} (h : plain y = some (true, xs)) {W : World} {vals : Array Value}
    (ha : All2 (fun v u => v.V (ctx0 W) u) (fi.vs y) vals.toList) : Calls P f vals W fun e W' => e = .returned (.bool true) ∧ Calm W W' := by
  obtain ⟨ret, objs', h1, _, h2⟩ := ok.run (AVal × List AObj) (fi.vs y) [.pool t []] (fun v os => some (v, os)) (.dat true .bool true, [.pool t xs]) (by
    unfold funOfA
    simp only [hy, h]; rfl)
  cases h1
  refine (h2 (ctxP W t) W vals (ctxP_mem W t) rfl rfl (ha.mono fun v u hv => AVal.V.mono (x := ctx0 W) (x' := ctxP W t) ⟨fun _ _ h => ⟨h, rfl⟩, fun _ _ _ h => h⟩ (fun r => .ofFree (ctx0_obj W r)) hv)).mono fun e W' hq => ?_
  obtain ⟨v, x', rfl, G, _, hv⟩ := hq
  rw [V_bool.1 hv]
  refine ⟨rfl, calm_of_goes G fun b hb => ?_⟩
  obtain ⟨r, a, _, m, _⟩ := hb
  cases m
end
/-- What a law's statement asks behind the call, where all that was there is as it was. -/
theorem law_post {P : Program} {H : Type} {enc : TypeId × Value → H} {f : Func} {s : ChangeSpec} {apart fresh handsOn again : Bool} {W W' : World} {args : Array Value} {v : Value} {ds gs : List (DataW H)} {before pa pv : List MemPlace}
    (hW : DataW.Whole enc P f.params.toList s.vars apart W args.toList ds gs before) (calm : Calm W W')
    (hres : ∀ (b : Nat) (sp : Nat → Bool) (hd : Bool), DataW.TrodAll enc P W' b sp hd f.resultTypes.toList (v.resultList f.resultTypes.size) (s.fn H (ds ++ gs)).results [])
    (hargs : ∀ sp : Nat → Bool, (∀ p ∈ before, sp p.block = true) → DataW.TrodAll enc P W' 0 sp true f.params.toList args.toList (s.fn H (ds ++ gs)).args pa)
    (hvars : ∀ sp : Nat → Bool, (∀ p ∈ before, sp p.block = true) → DataW.TrodVars enc P W' sp s.vars (s.fn H (ds ++ gs)).vars pv) (hps : before = pa ++ pv)
    (hok : ∀ (j : Nat) (t : TypeId) (r : Value), f.resultTypes[j]? = some t → (v.resultList f.resultTypes.size)[j]? = some r → Value.okWide P W' .any 0 t r) :
    s.post enc P f apart fresh handsOn again W args v W' := by
  have old : ∀ p ∈ before, p.block < W.heap.size := fun p hp => hW.lt p hp
  have sp0 : ∀ p ∈ before, (fun b => decide (b < W.heap.size)) p.block = true := fun p hp => by simpa using old p hp
  subst hps
  refine ⟨ds, gs, _, [], pa, pv, hW, hres _ _ _, hargs _ sp0, hvars _ sp0, World.keptBut_mono (fun _ h => h.elim) calm.kept, fun _ => ?_⟩
  obtain ⟨_, _, _, _, _, hz, hn⟩ := hW
  refine ⟨hok, _, _, _, ⟨[] ++ pa, pv, trodAll_append (hargs _ fun _ _ => rfl) (hres _ _ _), hvars _ fun _ _ => rfl, rfl, fun b off hp => ?_, fun ha => ?_⟩, fun p hp _ => ?_⟩
  · have hp : MemPlace.cell b off ∈ pa ++ pv := by simpa using hp
    rw [calm.frozen _ (old _ hp)]
    exact hz b off hp
  · simpa using hn ha
  · simpa using hp
end Go.Am

/- The abstract machine, thirty-first part: what a reading of arguments says, as plain data. -/
namespace Go.Am
open Go.ChangeShapes Go.WideShapes

/-- Data as a program may hold them. -/
def Ty.wf : (t : Ty) → t.den → Prop
  | .int k, n => (Lit.int k n).wf = true
  | .bool, _ => True
  | .str, s => s.size ≤ maxLen
  | .unit, _ => True
  | .one t, x => Ty.wf t x
  | .pair a b, x => Ty.wf a x.1 ∧ Ty.wf b x.2
  | .arr n t, xs => xs.length = n ∧ ∀ x ∈ xs, Ty.wf t x
  | .slice t, xs => xs.length ≤ maxLen ∧ ∀ x ∈ xs, Ty.wf t x
  | .pref _, _ => False

/-- Does each slice have elements that take room? -/
def Ty.thick : Ty → Bool
  | .slice t => Nat.blt 0 t.size && t.thick
  | .pref _ => false
  | .one t | .arr _ t => t.thick
  | .pair a b => a.thick && b.thick
  | _ => true

section
variable {P : Program} {T : Tbl} {H : Type} {enc : TypeId × Value → H} {w : World} {base : Nat} {sp : Nat → Bool} {held : Bool}

theorem cells_td {t : TypeId} {d : TD} (h : TdOk P t d) : P.cellsOf t = d.size := by
  obtain ⟨i, h1, h2, _⟩ := h.info
  unfold Program.cellsOf
  rw [h1]; exact h2

/-- A list, from what is said place by place. -/
theorem build_list {α : Type} {Q : α → List Value → Prop} {c : Nat} : ∀ (n : Nat) (cs : List Value), cs.length = n * c → (∀ i, i < n → ∃ x, Q x ((cs.drop (i * c)).take c)) → ∃ (xs : List α) (css : List (List Value)), xs.length = n ∧ cs = css.flatten ∧ All2 Q xs css := by
  intro n
  induction n with
  | zero => intro cs hl _; rw [Nat.zero_mul] at hl; exact ⟨[], [], rfl, by simpa using hl, .nil⟩
  | succ n ih =>
    intro cs hl hq
    obtain ⟨x, hx⟩ := hq 0 (by omega)
    rw [Nat.zero_mul, List.drop_zero] at hx
    have hlen : (cs.drop c).length = n * c := by rw [List.length_drop, hl, Nat.succ_mul]; omega
    obtain ⟨xs, css, h1, h2, h3⟩ := ih (cs.drop c) hlen fun i hi => by
      obtain ⟨y, hy⟩ := hq (i + 1) (by omega)
      refine ⟨y, ?_⟩
      rw [List.drop_drop, show c + i * c = (i + 1) * c by rw [Nat.succ_mul]; omega]
      exact hy
    exact ⟨x :: xs, cs.take c :: css, by simp [h1], by rw [List.flatten_cons, ← h2, List.take_append_drop], .cons hx h3⟩

theorem read_seq (hT : TblOk P T) : ∀ (t : Ty), t.thick = true →
    (∀ (f : Nat × TypeId) (off : Nat), seqFits T t off [f] = true → ∀ (n : Nat) (cs : List Value) (y : DataW H × List MemPlace), DataW.trod enc P w base sp held n f.2 cs = some y →
      ∃ x : t.den, t.Rel (fun b => w.heap[b]?) (Fz.low w.heap.size) x cs ∧ t.wf x) ∧
    (∀ (fs : List (Nat × TypeId)) (off : Nat), seqFits T t off fs = true → ∀ (n : Nat) (cs : List Value), (∀ f ∈ fs, ∃ y, DataW.trod enc P w base sp held n f.2 ((cs.drop f.1).take (P.cellsOf f.2)) = some y) →
      ∃ x : t.den, t.Rel (fun b => w.heap[b]?) (Fz.low w.heap.size) x ((cs.drop off).take t.size) ∧ t.wf x) := by
  have single : ∀ (t : Ty), (∀ (f : Nat × TypeId) (off : Nat), seqFits T t off [f] = true → ∀ (n : Nat) (cs : List Value) (y : DataW H × List MemPlace), DataW.trod enc P w base sp held n f.2 cs = some y →
      ∃ x : t.den, t.Rel (fun b => w.heap[b]?) (Fz.low w.heap.size) x cs ∧ t.wf x) →
      ∀ (f : Nat × TypeId) (off : Nat), seqFits T t off [f] = true → ∀ (n : Nat) (cs : List Value), (∀ g ∈ [f], ∃ y, DataW.trod enc P w base sp held n g.2 ((cs.drop g.1).take (P.cellsOf g.2)) = some y) →
      ∃ x : t.den, t.Rel (fun b => w.heap[b]?) (Fz.low w.heap.size) x ((cs.drop off).take t.size) ∧ t.wf x := by
    intro t A f off hf n cs hy
    obtain ⟨y, hy⟩ := hy f (by simp)
    obtain ⟨h1, d, h2, _, h4⟩ := seqFits_one hf
    rw [cells_td (hT _ _ h2), h1, h4] at hy
    exact A f off hf n _ y hy
  -- what a struct's fields say
  have fields : ∀ (id : TypeId) (d : TD) (fs : List (Nat × TypeId)), T id = some d → d.und = .struct fs → ∀ (n : Nat) (cs : List Value) (y : DataW H × List MemPlace), DataW.trod enc P w base sp held n id cs = some y →
      cs.length = d.size ∧ ∃ m, ∀ f ∈ fs, ∃ y, DataW.trod enc P w base sp held m f.2 ((cs.drop f.1).take (P.cellsOf f.2)) = some y := by
    intro id d fs hd hu n cs y h
    have hok := hT _ _ hd
    have hund := hok.und
    rw [hu] at hund
    obtain ⟨fields, h1, h2, _⟩ := hund
    obtain ⟨xs, m, _, _, hl, hxl, hall⟩ := DataW.trod_struct h1 h
    refine ⟨by rw [hl, cells_td hok], m, fun f hf => ?_⟩
    rw [← h2, List.mem_map] at hf
    obtain ⟨fl, hfl, rfl⟩ := hf
    obtain ⟨i, hi⟩ := List.getElem?_of_mem hfl
    have hi' : fields[i]? = some fl := by simpa using hi
    have hlt : i < xs.length := by
      rw [hxl]
      rcases Nat.lt_or_ge i fields.size with h | h
      · exact h
      · rw [Array.getElem?_eq_none h] at hi'; cases hi'
    exact ⟨xs[i], by rw [hall i fl hi', List.getElem?_eq_getElem hlt]⟩
  intro t
  induction t with
  | int k =>
    intro _
    have A : ∀ (f : Nat × TypeId) (off : Nat), seqFits T (.int k) off [f] = true → ∀ (n : Nat) (cs : List Value) (y : DataW H × List MemPlace), DataW.trod enc P w base sp held n f.2 cs = some y → ∃ x : Ty.den (.int k), Ty.Rel (fun b => w.heap[b]?) (Fz.low w.heap.size) (.int k) x cs ∧ Ty.wf (.int k) x := by
      intro f off hf n cs y h
      simp only [seqFits] at hf
      split at hf
      · rename_i k' he
        obtain ⟨_, d, h2, h3, _⟩ := hd?_inv he
        have hu := (hT _ _ h2).und
        rw [h3] at hu
        obtain rfl : k = k' := by simpa using hf
        obtain ⟨v, h4, _, h5⟩ := DataW.trod_int (show P.underlying f.2 = some (.int k) from hu) h
        exact ⟨v, h4, h5⟩
      · cases hf
    refine ⟨A, fun fs off hf n cs hy => ?_⟩
    match fs, hf, hy with
    | [f], hf, hy => exact single _ A f off hf n cs hy
  | bool =>
    intro _
    have A : ∀ (f : Nat × TypeId) (off : Nat), seqFits T .bool off [f] = true → ∀ (n : Nat) (cs : List Value) (y : DataW H × List MemPlace), DataW.trod enc P w base sp held n f.2 cs = some y → ∃ x : Ty.den .bool, Ty.Rel (fun b => w.heap[b]?) (Fz.low w.heap.size) .bool x cs ∧ Ty.wf .bool x := by
      intro f off hf n cs y h
      simp only [seqFits] at hf
      split at hf
      · rename_i he
        obtain ⟨_, d, h2, h3, _⟩ := hd?_inv he
        have hu := (hT _ _ h2).und
        rw [h3] at hu
        obtain ⟨v, h4, _⟩ := DataW.trod_bool (show P.underlying f.2 = some .bool from hu) h
        exact ⟨v, h4, trivial⟩
      · cases hf
    refine ⟨A, fun fs off hf n cs hy => ?_⟩
    match fs, hf, hy with
    | [f], hf, hy => exact single _ A f off hf n cs hy
  | str =>
    intro _
    have A : ∀ (f : Nat × TypeId) (off : Nat), seqFits T .str off [f] = true → ∀ (n : Nat) (cs : List Value) (y : DataW H × List MemPlace), DataW.trod enc P w base sp held n f.2 cs = some y → ∃ x : Ty.den .str, Ty.Rel (fun b => w.heap[b]?) (Fz.low w.heap.size) .str x cs ∧ Ty.wf .str x := by
      intro f off hf n cs y h
      simp only [seqFits] at hf
      split at hf
      · rename_i he
        obtain ⟨_, d, h2, h3, _⟩ := hd?_inv he
        have hu := (hT _ _ h2).und
        rw [h3] at hu
        obtain ⟨v, h4, _, h5⟩ := DataW.trod_string (show P.underlying f.2 = some .string from hu) h
        exact ⟨v, h4, h5⟩
      · cases hf
    refine ⟨A, fun fs off hf n cs hy => ?_⟩
    match fs, hf, hy with
    | [f], hf, hy => exact single _ A f off hf n cs hy
  | unit =>
    intro _
    have A : ∀ (f : Nat × TypeId) (off : Nat), seqFits T .unit off [f] = true → ∀ (n : Nat) (cs : List Value) (y : DataW H × List MemPlace), DataW.trod enc P w base sp held n f.2 cs = some y → ∃ x : Ty.den .unit, Ty.Rel (fun b => w.heap[b]?) (Fz.low w.heap.size) .unit x cs ∧ Ty.wf .unit x := by
      intro f off hf n cs y h
      simp only [seqFits] at hf
      split at hf
      · rename_i he
        obtain ⟨_, d, h2, h3, h4⟩ := hd?_inv he
        obtain ⟨h5, _⟩ := fields _ _ _ h2 h3 n cs y h
        exact ⟨(), List.length_eq_zero_iff.1 (h5.trans h4), trivial⟩
      · cases hf
    refine ⟨A, fun fs off hf n cs hy => ?_⟩
    match fs, hf, hy with
    | [f], hf, hy => exact single _ A f off hf n cs hy
  | one e ih =>
    intro hth
    have ih := ih hth
    have A : ∀ (f : Nat × TypeId) (off : Nat), seqFits T (.one e) off [f] = true → ∀ (n : Nat) (cs : List Value) (y : DataW H × List MemPlace), DataW.trod enc P w base sp held n f.2 cs = some y → ∃ x : Ty.den (.one e), Ty.Rel (fun b => w.heap[b]?) (Fz.low w.heap.size) (.one e) x cs ∧ Ty.wf (.one e) x := by
      intro f off hf n cs y h
      simp only [seqFits] at hf
      split at hf
      · rename_i g he
        obtain ⟨_, d, h2, h3, h4⟩ := hd?_inv he
        obtain ⟨h5, m, h6⟩ := fields _ _ _ h2 h3 n cs y h
        obtain ⟨x, h7, h8⟩ := ih.2 [g] 0 hf m cs h6
        rw [List.drop_zero, List.take_of_length_le (by rw [h5, h4]; exact Nat.le_refl _)] at h7
        exact ⟨x, h7, h8⟩
      · cases hf
    refine ⟨A, fun fs off hf n cs hy => ?_⟩
    match fs, hf, hy with
    | [f], hf, hy => exact single _ A f off hf n cs hy
  | pair a b iha ihb =>
    intro hth
    simp only [Ty.thick, Bool.and_eq_true] at hth
    have iha := iha hth.1
    have ihb := ihb hth.2
    have A : ∀ (f : Nat × TypeId) (off : Nat), seqFits T (.pair a b) off [f] = true → ∀ (n : Nat) (cs : List Value) (y : DataW H × List MemPlace), DataW.trod enc P w base sp held n f.2 cs = some y → ∃ x : Ty.den (.pair a b), Ty.Rel (fun b => w.heap[b]?) (Fz.low w.heap.size) (.pair a b) x cs ∧ Ty.wf (.pair a b) x := by
      intro f off hf n cs y h
      simp only [seqFits] at hf
      split at hf
      · rename_i g h0 fs he
        rw [Bool.and_eq_true] at hf
        obtain ⟨_, d, h2, h3, h4⟩ := hd?_inv he
        obtain ⟨h5, m, h6⟩ := fields _ _ _ h2 h3 n cs y h
        obtain ⟨x, h7, h8⟩ := iha.2 [g] 0 hf.1 m cs fun q hq => h6 q (by simp at hq; simp [hq])
        obtain ⟨z, h9, h10⟩ := ihb.2 (h0 :: fs) a.size hf.2 m cs fun q hq => h6 q (by simp at hq ⊢; exact .inr hq)
        refine ⟨(x, z), ⟨_, _, ?_, h7, h9⟩, h8, h10⟩
        rw [List.drop_zero, List.take_of_length_le (l := cs.drop a.size) (by rw [List.length_drop, h5, h4]; omega), List.take_append_drop]
      · cases hf
    refine ⟨A, fun fs off hf n cs hy => ?_⟩
    match fs, hf, hy with
    | [f], hf, hy => exact single _ A f off hf n cs hy
    | f :: g :: fs, hf, hy =>
      simp only [seqFits, Bool.and_eq_true] at hf
      obtain ⟨x, h7, h8⟩ := iha.2 [f] off hf.1 n cs fun q hq => hy q (by simp at hq; simp [hq])
      obtain ⟨z, h9, h10⟩ := ihb.2 (g :: fs) (off + a.size) hf.2 n cs fun q hq => hy q (by simp at hq ⊢; exact .inr hq)
      refine ⟨(x, z), ⟨_, _, ?_, h7, h9⟩, h8, h10⟩
      show (cs.drop off).take (a.size + b.size) = _
      rw [List.take_add, List.drop_drop]
  | arr k e ih =>
    intro hth
    have ih := ih hth
    have A : ∀ (f : Nat × TypeId) (off : Nat), seqFits T (.arr k e) off [f] = true → ∀ (n : Nat) (cs : List Value) (y : DataW H × List MemPlace), DataW.trod enc P w base sp held n f.2 cs = some y → ∃ x : Ty.den (.arr k e), Ty.Rel (fun b => w.heap[b]?) (Fz.low w.heap.size) (.arr k e) x cs ∧ Ty.wf (.arr k e) x := by
      intro f off hf n cs y h
      simp only [seqFits] at hf
      split at hf
      · rename_i m g he
        rw [Bool.and_eq_true] at hf
        obtain rfl := Nat.eq_of_beq_eq_true hf.1
        obtain ⟨_, d, h2, h3, h4⟩ := hd?_inv he
        have hu := (hT _ _ h2).und
        rw [h3] at hu
        obtain ⟨_, dg, h5, _, h6⟩ := seqFits_one hf.2
        have hcg : P.cellsOf g = e.size := (cells_td (hT _ _ h5)).trans h6
        obtain ⟨xs, q, _, _, hl, hxl, hall⟩ := DataW.trod_array (show P.underlying f.2 = some (.array m g) from hu) h
        obtain ⟨zs, css, h7, h8, h9⟩ := build_list (Q := fun x c => Ty.Rel (fun b => w.heap[b]?) (Fz.low w.heap.size) e x c ∧ e.wf x) (c := e.size) m cs (by rw [hl, cells_td (hT _ _ h2), h4]) fun i hi => by
          have := hall i hi
          rw [hcg, List.getElem?_eq_getElem (by rw [hxl]; exact hi)] at this
          exact ih.1 (0, g) 0 hf.2 q _ _ this
        refine ⟨zs, ⟨h7, css, h8, h9.mono fun _ _ h => h.1⟩, h7, fun x hx => ?_⟩
        obtain ⟨i, hi⟩ := List.getElem?_of_mem hx
        obtain ⟨c, _, hc⟩ := h9.get hi
        exact hc.2
      · cases hf
    refine ⟨A, fun fs off hf n cs hy => ?_⟩
    match fs, hf, hy with
    | [f], hf, hy => exact single _ A f off hf n cs hy
  | pref k => intro h; cases h
  | slice e ih =>
    intro hth
    simp only [Ty.thick, Bool.and_eq_true] at hth
    have hc0 : 0 < e.size := by simpa [Nat.blt_eq] using hth.1
    have ih := ih hth.2
    have A : ∀ (f : Nat × TypeId) (off : Nat), seqFits T (.slice e) off [f] = true → ∀ (n : Nat) (cs : List Value) (y : DataW H × List MemPlace), DataW.trod enc P w base sp held n f.2 cs = some y → ∃ x : Ty.den (.slice e), Ty.Rel (fun b => w.heap[b]?) (Fz.low w.heap.size) (.slice e) x cs ∧ Ty.wf (.slice e) x := by
      intro f off hf n cs y h
      simp only [seqFits] at hf
      split at hf
      · rename_i g he
        obtain ⟨_, d, h2, h3, h4⟩ := hd?_inv he
        have hu := (hT _ _ h2).und
        rw [h3] at hu
        obtain ⟨_, dg, h5, _, h6⟩ := seqFits_one hf
        have hcg : P.cellsOf g = e.size := (cells_td (hT _ _ h5)).trans h6
        rcases DataW.trod_slice (show P.underlying f.2 = some (.slice g) from hu) h with ⟨rfl, _⟩ | ⟨a, len, cap, elems, rest, m, _, rfl, _, _, hle, hcap, hel, hall, _⟩
        · exact ⟨[], ⟨none, 0, 0, rfl, rfl, Nat.le_refl _, fun _ => rfl, fun h => absurd h (Nat.lt_irrefl _)⟩, Nat.zero_le _, fun x hx => by cases hx⟩
        rw [hcg] at hall
        by_cases hlen : len = 0
        · subst hlen
          exact ⟨[], ⟨some a, 0, cap, rfl, rfl, Nat.zero_le _, (fun e => by cases e), fun h => absurd h (Nat.lt_irrefl _)⟩, Nat.zero_le _, fun x hx => by cases hx⟩
        -- each element's cells
        have chunk : ∀ i, i < len → ∃ ch y, (ch.length = e.size ∧ ∀ j, j < e.size → w.cell? ((a.add (i * e.size)).add j) = ch[j]?) ∧ DataW.trod enc P w base sp held m g ch = some y := by
          intro i hi
          have := hall i hi
          rw [List.getElem?_eq_getElem (by omega)] at this
          cases hch : w.cells? base (a.add (i * e.size)) e.size with
          | none => rw [hch] at this; cases this
          | some ch => rw [hch] at this; exact ⟨ch, _, (World.cells?_some hch).2, this⟩
        obtain ⟨ch0, _, ⟨hl0, hg0⟩, _⟩ := chunk 0 (by omega)
        have hcell := hg0 0 hc0
        rw [Nat.zero_mul] at hcell
        have ha0 : (a.add 0).add 0 = a := by simp [Addr.add]
        rw [ha0, List.getElem?_eq_getElem (by omega)] at hcell
        obtain ⟨b, o, spot⟩ := a
        unfold World.cell? at hcell
        simp only at hcell
        cases hb : w.heap[b]? with
        | none => rw [hb] at hcell; cases hcell
        | some ob =>
          rw [hb] at hcell
          cases ob with
          | cells C et fr =>
            simp only at hcell
            have hspot : spot = none := by
              cases spot with
              | none => rfl
              | some q => simp at hcell
            subst hspot
            have at_ : ∀ i, i < len → ∀ j, j < e.size → ∀ ch : List Value, w.cell? (((⟨b, o, none⟩ : Addr).add (i * e.size)).add j) = ch[j]? → C[o + (i * e.size + j)]? = ch[j]? := by
              intro i _ j _ ch hq
              rw [add_mk, add_mk, cell_of_heap hb, Nat.add_assoc] at hq
              exact hq
            have hlt : ∀ j, j < len * e.size → o + j < C.size := by
              intro j hj
              have hi : j / e.size < len := by rw [Nat.div_lt_iff_lt_mul hc0]; exact hj
              obtain ⟨ch, _, ⟨hl, hg⟩, _⟩ := chunk (j / e.size) hi
              have hm := Nat.mod_lt j hc0
              have := at_ _ hi (j % e.size) hm ch (hg _ hm)
              rw [List.getElem?_eq_getElem (by omega)] at this
              have := (Array.getElem?_eq_some_iff.1 this).1
              have e1 : j / e.size * e.size + j % e.size = j := by rw [Nat.mul_comm]; exact Nat.div_add_mod j e.size
              omega
            have hrow : ((C.toList.drop o).take (len * e.size)).length = len * e.size := by
              rw [List.length_take, List.length_drop]
              have := hlt (len * e.size - 1) (by have := Nat.mul_pos (Nat.pos_of_ne_zero hlen) hc0; omega)
              simp only [Array.length_toList]
              omega
            have hget : ∀ j, j < len * e.size → ((C.toList.drop o).take (len * e.size))[j]? = C[o + j]? := by
              intro j hj
              rw [List.getElem?_take, if_pos hj, List.getElem?_drop]
              simp
            obtain ⟨zs, css, h7, h8, h9⟩ := build_list (Q := fun x c => Ty.Rel (fun b => w.heap[b]?) (Fz.low w.heap.size) e x c ∧ e.wf x) (c := e.size) len _ hrow fun i hi => by
              obtain ⟨ch, y, ⟨hl, hg⟩, ht⟩ := chunk i hi
              have hch : (((C.toList.drop o).take (len * e.size)).drop (i * e.size)).take e.size = ch := by
                apply List.ext_getElem?
                intro j
                rcases Nat.lt_or_ge j e.size with hj | hj
                · have hij : i * e.size + j < len * e.size := by
                    have : (i + 1) * e.size ≤ len * e.size := Nat.mul_le_mul_right _ hi
                    rw [Nat.succ_mul] at this; omega
                  rw [List.getElem?_take, if_pos hj, List.getElem?_drop, hget _ hij]
                  exact at_ i hi j hj ch (hg j hj)
                · rw [List.getElem?_eq_none (by rw [List.length_take]; omega), List.getElem?_eq_none (by omega)]
              rw [hch]
              exact ih.1 (0, g) 0 hf m _ _ ht
            refine ⟨zs, ⟨some ⟨b, o, none⟩, len, cap, rfl, h7.symm, hle, (fun e => by cases e), fun _ => ⟨b, o, rfl, (show b < w.heap.size from (Array.getElem?_eq_some_iff.1 hb).1), css, ⟨C, et, fr, hb, fun j v hv => ?_⟩, h9.mono fun _ _ h => h.1⟩⟩, by rw [h7]; exact Nat.le_trans hle hcap, fun x hx => ?_⟩
            · rw [← h8] at hv
              have hj : j < len * e.size := by rw [← hrow]; exact (List.getElem?_eq_some_iff.1 hv).1
              rw [hget j hj] at hv
              exact hv
            · obtain ⟨i, hi⟩ := List.getElem?_of_mem hx
              obtain ⟨c, _, hc⟩ := h9.get hi
              exact hc.2
          | _ => cases hcell
      · cases hf
    refine ⟨A, fun fs off hf n cs hy => ?_⟩
    match fs, hf, hy with
    | [f], hf, hy => exact single _ A f off hf n cs hy

theorem cells_self {r : Reach} {b0 : Nat} {t : TypeId} {v : Value} (hu : P.underlying t = some .bool ∨ P.underlying t = some .string ∨ (∃ k, P.underlying t = some (.int k)) ∨ ∃ e, P.underlying t = some (.slice e)) (hval : Value.okWide P w r b0 t v) : v.cells.toList = [v] := by
  unfold Value.okWide at hval
  rcases hu with hu | hu | ⟨k, hu⟩ | ⟨e, hu⟩ <;> rw [hu] at hval <;> simp only at hval <;> unfold Cell.okWide Cell.ok at hval <;> rw [hu] at hval <;> cases v <;> first
    | rfl
    | exact hval.elim

/-- An argument, read: data that lie where the argument says. -/
theorem read_arg (hT : TblOk P T) {t : Ty} {id : TypeId} (hf : fits T t id = true) (hth : t.thick = true) {r : Reach} {b0 : Nat} {v : Value} {d : DataW H} {ps : List MemPlace} (hval : Value.okWide P w r b0 id v) (hd : DataW.Trod enc P w base sp held id v d ps) :
    ∃ x : t.den, (AVal.dat false t x).V (ctx0 w) v ∧ t.wf x := by
  obtain ⟨fuel, hd⟩ := hd
  obtain ⟨x, h1, h2⟩ := (read_seq hT t hth).1 (0, id) 0 hf fuel _ _ hd
  refine ⟨x, ?_, h2⟩
  have h1 : t.Rel (ctx0 w).h ((ctx0 w).F false) x v.cells.toList := Ty.Rel.congr ⟨fun b hb => ⟨hb, rfl⟩, fun _ _ _ h => h⟩ _ _ _ h1
  have one : t.agg = false → v.cells.toList = [v] → (AVal.dat false t x).V (ctx0 w) v := by
    intro ha e
    unfold AVal.V
    rw [if_neg (by show ¬ t.agg = true; rw [ha]; simp), ← e]
    exact h1
  have many : t.agg = true → (∃ cs, v = .agg cs) → (AVal.dat false t x).V (ctx0 w) v := by
    rintro ha ⟨cs, rfl⟩
    unfold AVal.V
    rw [if_pos (show (AVal.dat false t x).agg = true from ha)]
    exact ⟨cs, rfl, h1⟩
  have undAt : ∀ {u : Und} {sz : Nat}, hd? T sz 0 (0, id) = some u → UndOk P id u := by
    intro u sz he
    obtain ⟨_, dd, h3, h4, _⟩ := hd?_inv he
    rw [← h4]; exact (hT _ _ h3).und
  unfold fits at hf
  cases t with
  | int k =>
    simp only [seqFits] at hf
    split at hf
    · rename_i k' he; exact one rfl (cells_self (.inr (.inr (.inl ⟨k', undAt he⟩))) hval)
    · cases hf
  | bool =>
    simp only [seqFits] at hf
    split at hf
    · rename_i he; exact one rfl (cells_self (.inl (undAt he)) hval)
    · cases hf
  | str =>
    simp only [seqFits] at hf
    split at hf
    · rename_i he; exact one rfl (cells_self (.inr (.inl (undAt he))) hval)
    · cases hf
  | pref k => cases hth
  | slice e =>
    simp only [seqFits] at hf
    split at hf
    · rename_i g he; exact one rfl (cells_self (.inr (.inr (.inr ⟨g, undAt he⟩))) hval)
    · cases hf
  | unit =>
    simp only [seqFits] at hf
    split at hf
    · rename_i he
      obtain ⟨fields, hu, _⟩ := undAt he
      unfold Value.okWide at hval
      rw [hu] at hval
      obtain ⟨cs, rfl, _⟩ := hval
      exact many rfl ⟨cs, rfl⟩
    · cases hf
  | one e =>
    simp only [seqFits] at hf
    split at hf
    · rename_i g he
      obtain ⟨fields, hu, _⟩ := undAt he
      unfold Value.okWide at hval
      rw [hu] at hval
      obtain ⟨cs, rfl, _⟩ := hval
      exact many rfl ⟨cs, rfl⟩
    · cases hf
  | pair a b =>
    simp only [seqFits] at hf
    split at hf
    · rename_i g h0 fs he
      obtain ⟨fields, hu, _⟩ := undAt he
      unfold Value.okWide at hval
      rw [hu] at hval
      obtain ⟨cs, rfl, _⟩ := hval
      exact many rfl ⟨cs, rfl⟩
    · cases hf
  | arr n e =>
    simp only [seqFits] at hf
    split at hf
    · rename_i m g he
      have hu : P.underlying id = some (.array m g) := undAt he
      unfold Value.okWide at hval
      rw [hu] at hval
      obtain ⟨cs, rfl, _⟩ := hval
      exact many rfl ⟨cs, rfl⟩
    · cases hf

/-- Do the elements of each slice take room? -/
def slicesThick (P : Program) : Bool := (List.range P.types.size).all fun t => match P.underlying t with
  | some (.slice e) => Nat.blt 0 (P.cellsOf e)
  | _ => true

/-- What was read reads as it did. -/
theorem args_back (hl : laidOutB P = true) (hm : mapsRowed P = true) (hs : slicesThick P = true) {w' : World} (calm : Calm w w') {sp' : Nat → Bool} :
    ∀ {ts : List TypeId} {vs : List Value} {ds : List (DataW H)} {ps : List MemPlace}, ts.all (fun t => Nat.blt t P.types.size) = true → DataW.TrodAll enc P w 0 (fun _ => true) true ts vs ds ps → (∀ p ∈ ps, sp' p.block = true) → DataW.TrodAll enc P w' 0 sp' true ts vs ds ps := by
  intro ts
  induction ts with
  | nil =>
    intro vs ds ps _ h _
    obtain ⟨rfl, rfl, rfl⟩ := trodAll_nil h
    exact rfl
  | cons t ts ih =>
    intro vs ds ps ht h hsp
    rw [List.all_cons, Bool.and_eq_true] at ht
    obtain ⟨v, vs1, d, ds1, a, b, rfl, rfl, rfl, ⟨n, h1⟩, h2⟩ := trodAll_cons h
    refine ⟨a, b, ⟨n, ?_⟩, ih ht.2 h2 fun p hp => hsp p (by simp [hp]), rfl⟩
    refine DataW.trod_stays (kids_rows hl hm) (fun {t e} h3 h4 => ?_) (fun e => by cases e) (by simpa [Nat.blt_eq] using ht.1) h1 (fun p hp => ?_) fun p hp => hsp p (by simp [hp])
    · have := List.all_eq_true.1 hs t (List.mem_range.2 h3)
      rw [h4] at this
      simpa [Nat.blt_eq] using this
    · have hlt := DataW.trod_lt _ _ _ _ h1 p hp
      cases p with
      | cell b off =>
        show w'.cell? _ = w.cell? _
        have e : w'.heap[b]? = w.heap[b]? := calm.heap b hlt
        unfold World.cell?
        simp only [e]
      | map b => exact calm.heap b hlt
end
end Go.Am

/- Helps for plain laws: numbers that are wrapped, equality of data. -/
namespace Go.Am
theorem wrapU {n : Nat} (h : n < 18446744073709551616) : IntKind.wrap .u64 (n : Int) = n := by
  unfold IntKind.wrap
  simp only [IntKind.bits, IntKind.signed, Bool.false_and, Bool.false_eq_true, if_false]
  omega
theorem wrapU' {n : Int} (h0 : 0 ≤ n) (h : n < 18446744073709551616) : IntKind.wrap .u64 n = n := by
  unfold IntKind.wrap
  simp only [IntKind.bits, IntKind.signed, Bool.false_and, Bool.false_eq_true, if_false]
  omega
theorem wrapU_mod (n : Int) : IntKind.wrap .u64 n = n % 18446744073709551616 := rfl
theorem wrapU32_mod (n : Int) : IntKind.wrap .u32 n = n % 4294967296 := rfl
theorem wrapU32 {n : Int} (h0 : 0 ≤ n) (h : n < 4294967296) : IntKind.wrap .u32 n = n := by rw [wrapU32_mod]; omega
theorem wrapI {n : Int} (h1 : -9223372036854775808 ≤ n) (h2 : n < 9223372036854775808) : IntKind.wrap .i64 n = n := by
  show (if decide (n % (2 ^ 64 : Int) ≥ (2 ^ 63 : Int)) = true then n % (2 ^ 64 : Int) - (2 ^ 64 : Int) else n % (2 ^ 64 : Int)) = n
  by_cases h : n % (2 ^ 64 : Int) ≥ (2 ^ 63 : Int)
  · rw [if_pos (decide_eq_true h)]; omega
  · rw [if_neg (fun e => h (of_decide_eq_true e))]; omega
/-- A count goes on. -/
theorem wrapNext (i : Nat) (h : i < 9223372036854775807) : IntKind.wrap .i64 ((i : Int) + 1) = ((i + 1 : Nat) : Int) := by
  rw [wrapI (by omega) (by omega)]; omega
theorem tmod_pos {a b : Int} (h : 0 ≤ a) : Int.tmod a b = a % b := Int.tmod_eq_emod_of_nonneg h
theorem tdiv_pos {a b : Int} (h : 0 ≤ a) : Int.tdiv a b = a / b := Int.tdiv_eq_ediv_of_nonneg h

theorem wf_i64 {n : Int} (h : Ty.wf (.int .i64) n) : -9223372036854775808 ≤ n ∧ n < 9223372036854775808 := by
  have h : (Lit.int .i64 n).wf = true := h
  have : -9223372036854775808 ≤ n ∧ n ≤ 9223372036854775807 := by simpa [Lit.wf, IntKind.min, IntKind.max, IntKind.signed, IntKind.bits] using h
  omega
theorem wf_u64 {n : Int} (h : Ty.wf (.int .u64) n) : 0 ≤ n ∧ n < 18446744073709551616 := by
  have h : (Lit.int .u64 n).wf = true := h
  have : 0 ≤ n ∧ n ≤ 18446744073709551615 := by simpa [Lit.wf, IntKind.min, IntKind.max, IntKind.signed, IntKind.bits] using h
  omega
theorem wf_u32 {n : Int} (h : Ty.wf (.int .u32) n) : 0 ≤ n ∧ n < 4294967296 := by
  have h : (Lit.int .u32 n).wf = true := h
  have : 0 ≤ n ∧ n ≤ 4294967295 := by simpa [Lit.wf, IntKind.min, IntKind.max, IntKind.signed, IntKind.bits] using h
  omega

theorem eqB_int {k : IntKind} (x y : Int) : Ty.eqB (.int k) x y = decide (x = y) := rfl
theorem eqB_pair2 {k l : IntKind} (x y : Int × Int) : Ty.eqB (.pair (.int k) (.int l)) x y = decide (x = y) := by
  obtain ⟨a, b⟩ := x; obtain ⟨c, d⟩ := y
  simp only [Ty.eqB, Prod.mk.injEq, Bool.decide_and]
theorem eqList_int : ∀ (xs ys : List Int), eqList (fun a b : Int => decide (a = b)) xs ys = decide (xs = ys)
  | [], [] => rfl
  | [], _ :: _ => by simp [eqList]
  | _ :: _, [] => by simp [eqList]
  | x :: xs, y :: ys => by simp [eqList, eqList_int xs ys]
theorem eqB_arr_int {n : Nat} {k : IntKind} (xs ys : List Int) : Ty.eqB (.arr n (.int k)) xs ys = decide (xs = ys) := eqList_int xs ys
theorem eqList_bool : ∀ (xs ys : List Bool), eqList (fun a b : Bool => a == b) xs ys = decide (xs = ys)
  | [], [] => rfl
  | [], _ :: _ => by simp [eqList]
  | _ :: _, [] => by simp [eqList]
  | x :: xs, y :: ys => by
    simp only [eqList, eqList_bool xs ys, List.cons.injEq, Bool.decide_and]
    cases x <;> cases y <;> simp
theorem eqB_arr_bool {n : Nat} (xs ys : List Bool) : Ty.eqB (.arr n .bool) xs ys = decide (xs = ys) := eqList_bool xs ys
/-- Is it data without slices? -/
def Ty.flat : Ty → Bool
  | .slice _ | .pref _ => false
  | .one t | .arr _ t => t.flat
  | .pair a b => a.flat && b.flat
  | _ => true
theorem eqList_self {α : Type} {f : α → α → Bool} (h : ∀ x, f x x = true) : ∀ xs : List α, eqList f xs xs = true
  | [] => rfl
  | x :: xs => by simp only [eqList, h x, eqList_self h xs, Bool.and_self]
theorem eqB_self : ∀ t : Ty, t.flat = true → ∀ x, Ty.eqB t x x = true
  | .int _, _, _ => decide_eq_true rfl
  | .bool, _, x => by simp [Ty.eqB]
  | .str, _, x => by simp [Ty.eqB]
  | .unit, _, _ => rfl
  | .one t, h, x => eqB_self t h x
  | .pair a b, h, x => by
    have h : (a.flat && b.flat) = true := h
    rw [Bool.and_eq_true] at h
    simp only [Ty.eqB, eqB_self a h.1, eqB_self b h.2, Bool.and_self]
  | .arr _ t, h, x => eqList_self (eqB_self t h) x
/-- How many rounds a loop may make. -/
def FUEL : Nat := 2 ^ 70
theorem fuel_big {n : Nat} (h : n ≤ 1180591620717411303424) : n ≤ FUEL := h
end Go.Am

/- The abstract machine, thirty-third part: what a reading of arguments says of their size. -/
namespace Go.Am
open Go.ChangeShapes Go.WideShapes

/-- The least number of bytes of data of a type. -/
def Ty.lo : Ty → Nat
  | .int k => match k with
    | .i8 | .u8 => 1
    | .i16 | .u16 => 2
    | .i32 | .u32 => 4
    | _ => 8
  | .bool => 1
  | .str => 16
  | .unit => 0
  | .one t => t.lo
  | .pair a b => a.lo + b.lo
  | .arr n t => n * t.lo
  | .slice _ => 24
  | .pref _ => 8

/-- Data as a program may hold them, that were handed in: each slice has room. -/
def Ty.wr : (t : Ty) → t.den → Prop
  | .int k, n => (Lit.int k n).wf = true
  | .bool, _ => True
  | .str, s => s.size ≤ maxLen
  | .unit, _ => True
  | .one t, x => Ty.wr t x
  | .pair a b, x => Ty.wr a x.1 ∧ Ty.wr b x.2
  | .arr n t, xs => xs.length = n ∧ ∀ x ∈ xs, Ty.wr t x
  | .slice t, xs => (xs.length ≤ maxLen ∧ xs.length * t.lo ≤ reachBytes) ∧ ∀ x ∈ xs, Ty.wr t x
  | .pref _, _ => False

theorem Ty.wr.wf : ∀ (t : Ty) {x : t.den}, t.wr x → t.wf x
  | .int _, _, h => h
  | .bool, _, _ => trivial
  | .str, _, h => h
  | .unit, _, _ => trivial
  | .one t, _, h => Ty.wr.wf t h
  | .pair a b, _, h => ⟨Ty.wr.wf a h.1, Ty.wr.wf b h.2⟩
  | .arr _ t, _, h => ⟨h.1, fun x hx => Ty.wr.wf t (h.2 x hx)⟩
  | .slice t, _, h => ⟨h.1.1, fun x hx => Ty.wr.wf t (h.2 x hx)⟩
  | .pref _, _, h => h

/-- Have the elements of each slice at least so many bytes? -/
def seqRoom (P : Program) (T : Tbl) : Ty → List (Nat × TypeId) → Bool
  | .pair a b, [(_, f)] => match T f with
    | some { und := .struct (g :: h :: fs), .. } => seqRoom P T a [g] && seqRoom P T b (h :: fs)
    | _ => false
  | .pair a b, f :: g :: fs => seqRoom P T a [f] && seqRoom P T b (g :: fs)
  | .one e, [(_, f)] => match T f with
    | some { und := .struct [g], .. } => seqRoom P T e [g]
    | _ => false
  | .arr _ e, [(_, f)] => match T f with
    | some { und := .arr _ g, .. } => seqRoom P T e [(0, g)]
    | _ => false
  | .slice e, [(_, f)] => match T f with
    | some { und := .slice g, .. } => Nat.ble e.lo (P.bytesOf g) && seqRoom P T e [(0, g)]
    | _ => false
  | .int _, _ | .bool, _ | .str, _ | .unit, _ => true
  | _, _ => false

def fitsRoom (P : Program) (T : Tbl) (t : Ty) (id : TypeId) : Bool := seqRoom P T t [(0, id)]

section
variable {H : Type}
theorem weights_struct {P : Program} {id : TypeId} {fields : Array Field} (hu : P.underlying id = some (.struct fields)) {parts : List (DataW H)} {B : Nat} (h : ∀ n ∈ (DataW.agg parts).weights P id, n ≤ B) {i : Nat} {fl : Field} {d : DataW H} (hf : fields[i]? = some fl) (hd : parts[i]? = some d) : ∀ n ∈ d.weights P fl.type, n ≤ B := by
  intro n hn
  refine h n ?_
  unfold DataW.weights
  rw [hu]
  exact DataW.weights_mem_each (j := i) (by rw [List.getElem?_map]; simp [hf]) hd n hn
theorem weights_all {P : Program} {e : TypeId} : ∀ {ds : List (DataW H)} {i : Nat} {d : DataW H}, ds[i]? = some d → ∀ n ∈ d.weights P e, n ∈ DataW.weightsAll P e ds
  | d0 :: ds, 0, d, hd, n, hn => by
    simp only [List.getElem?_cons_zero, Option.some.injEq] at hd
    subst hd
    simp only [DataW.weightsAll, List.mem_append]; exact .inl hn
  | d0 :: ds, i + 1, d, hd, n, hn => by
    simp only [List.getElem?_cons_succ] at hd
    simp only [DataW.weightsAll, List.mem_append]; exact .inr (weights_all hd n hn)
  | [], _, _, hd, _, _ => by simp at hd
theorem weights_array {P : Program} {id e : TypeId} {m : Nat} (hu : P.underlying id = some (.array m e)) {parts : List (DataW H)} {B : Nat} (h : ∀ n ∈ (DataW.agg parts).weights P id, n ≤ B) {i : Nat} {d : DataW H} (hd : parts[i]? = some d) : ∀ n ∈ d.weights P e, n ≤ B := by
  intro n hn
  refine h n ?_
  unfold DataW.weights
  rw [hu]
  exact weights_all hd n hn
theorem weights_slice {P : Program} {id e : TypeId} (hu : P.underlying id = some (.slice e)) {elems spare : List (DataW H)} {B : Nat} (h : ∀ n ∈ (DataW.slice elems spare).weights P id, n ≤ B) : elems.length * P.bytesOf e ≤ B ∧ ∀ {i : Nat} {d : DataW H}, elems[i]? = some d → ∀ n ∈ d.weights P e, n ≤ B := by
  have hw : (DataW.slice elems spare).weights P id = (elems.length + spare.length) * P.bytesOf e :: (DataW.weightsAll P e elems ++ DataW.weightsAll P e spare) := by
    rw [DataW.weights, hu]
  rw [hw] at h
  refine ⟨Nat.le_trans (Nat.mul_le_mul_right _ (Nat.le_add_right _ _)) (h _ (List.mem_cons_self ..)), fun hd n hn => h n (List.mem_cons_of_mem _ (List.mem_append_left _ (weights_all hd n hn)))⟩
end

section
variable {P : Program} {T : Tbl} {H : Type} {enc : TypeId × Value → H} {w : World} {base : Nat} {sp : Nat → Bool} {held : Bool}

theorem read_seqr (hT : TblOk P T) : ∀ (t : Ty), t.thick = true →
    (∀ (f : Nat × TypeId) (off : Nat), seqFits T t off [f] = true → seqRoom P T t [f] = true → ∀ (n : Nat) (cs : List Value) (y : DataW H × List MemPlace), DataW.trod enc P w base sp held n f.2 cs = some y → (∀ k ∈ y.1.weights P f.2, k ≤ reachBytes) →
      ∃ x : t.den, t.Rel (fun b => w.heap[b]?) (Fz.low w.heap.size) x cs ∧ t.wr x) ∧
    (∀ (fs : List (Nat × TypeId)) (off : Nat), seqFits T t off fs = true → seqRoom P T t fs = true → ∀ (n : Nat) (cs : List Value), (∀ f ∈ fs, ∃ y, DataW.trod enc P w base sp held n f.2 ((cs.drop f.1).take (P.cellsOf f.2)) = some y ∧ ∀ k ∈ y.1.weights P f.2, k ≤ reachBytes) →
      ∃ x : t.den, t.Rel (fun b => w.heap[b]?) (Fz.low w.heap.size) x ((cs.drop off).take t.size) ∧ t.wr x) := by
  have single : ∀ (t : Ty), (∀ (f : Nat × TypeId) (off : Nat), seqFits T t off [f] = true → seqRoom P T t [f] = true → ∀ (n : Nat) (cs : List Value) (y : DataW H × List MemPlace), DataW.trod enc P w base sp held n f.2 cs = some y → (∀ k ∈ y.1.weights P f.2, k ≤ reachBytes) →
      ∃ x : t.den, t.Rel (fun b => w.heap[b]?) (Fz.low w.heap.size) x cs ∧ t.wr x) →
      ∀ (f : Nat × TypeId) (off : Nat), seqFits T t off [f] = true → seqRoom P T t [f] = true → ∀ (n : Nat) (cs : List Value), (∀ g ∈ [f], ∃ y, DataW.trod enc P w base sp held n g.2 ((cs.drop g.1).take (P.cellsOf g.2)) = some y ∧ ∀ k ∈ y.1.weights P g.2, k ≤ reachBytes) →
      ∃ x : t.den, t.Rel (fun b => w.heap[b]?) (Fz.low w.heap.size) x ((cs.drop off).take t.size) ∧ t.wr x := by
    intro t A f off hf hr n cs hy
    obtain ⟨y, hy, hz⟩ := hy f (by simp)
    obtain ⟨h1, d, h2, _, h4⟩ := seqFits_one hf
    rw [cells_td (hT _ _ h2), h1, h4] at hy
    exact A f off hf hr n _ y hy hz
  -- what a struct's fields say
  have fields : ∀ (id : TypeId) (d : TD) (fs : List (Nat × TypeId)), T id = some d → d.und = .struct fs → ∀ (n : Nat) (cs : List Value) (y : DataW H × List MemPlace), DataW.trod enc P w base sp held n id cs = some y → (∀ k ∈ y.1.weights P id, k ≤ reachBytes) →
      cs.length = d.size ∧ ∃ m, ∀ f ∈ fs, ∃ y, DataW.trod enc P w base sp held m f.2 ((cs.drop f.1).take (P.cellsOf f.2)) = some y ∧ ∀ k ∈ y.1.weights P f.2, k ≤ reachBytes := by
    intro id d fs hd hu n cs y h hz
    have hok := hT _ _ hd
    have hund := hok.und
    rw [hu] at hund
    obtain ⟨fields, h1, h2, _⟩ := hund
    obtain ⟨xs, m, _, rfl, hl, hxl, hall⟩ := DataW.trod_struct h1 h
    refine ⟨by rw [hl, cells_td hok], m, fun f hf => ?_⟩
    rw [← h2, List.mem_map] at hf
    obtain ⟨fl, hfl, rfl⟩ := hf
    obtain ⟨i, hi⟩ := List.getElem?_of_mem hfl
    have hi' : fields[i]? = some fl := by simpa using hi
    have hlt : i < xs.length := by
      rw [hxl]
      rcases Nat.lt_or_ge i fields.size with h | h
      · exact h
      · rw [Array.getElem?_eq_none h] at hi'; cases hi'
    exact ⟨xs[i], by rw [hall i fl hi', List.getElem?_eq_getElem hlt], weights_struct h1 hz hi' (by rw [List.getElem?_map, List.getElem?_eq_getElem hlt]; rfl)⟩
  intro t
  induction t with
  | int k =>
    intro _
    have A : ∀ (f : Nat × TypeId) (off : Nat), seqFits T (.int k) off [f] = true → seqRoom P T (.int k) [f] = true → ∀ (n : Nat) (cs : List Value) (y : DataW H × List MemPlace), DataW.trod enc P w base sp held n f.2 cs = some y → (∀ k ∈ y.1.weights P f.2, k ≤ reachBytes) → ∃ x : Ty.den (.int k), Ty.Rel (fun b => w.heap[b]?) (Fz.low w.heap.size) (.int k) x cs ∧ Ty.wr (.int k) x := by
      intro f off hf hr n cs y h hz
      simp only [seqFits] at hf
      split at hf
      · rename_i k' he
        obtain ⟨_, d, h2, h3, _⟩ := hd?_inv he
        have hu := (hT _ _ h2).und
        rw [h3] at hu
        obtain rfl : k = k' := by simpa using hf
        obtain ⟨v, h4, _, h5⟩ := DataW.trod_int (show P.underlying f.2 = some (.int k) from hu) h
        exact ⟨v, h4, h5⟩
      · cases hf
    refine ⟨A, fun fs off hf hr n cs hy => ?_⟩
    match fs, hf, hr, hy with
    | [f], hf, hr, hy => exact single _ A f off hf hr n cs hy
  | bool =>
    intro _
    have A : ∀ (f : Nat × TypeId) (off : Nat), seqFits T .bool off [f] = true → seqRoom P T .bool [f] = true → ∀ (n : Nat) (cs : List Value) (y : DataW H × List MemPlace), DataW.trod enc P w base sp held n f.2 cs = some y → (∀ k ∈ y.1.weights P f.2, k ≤ reachBytes) → ∃ x : Ty.den .bool, Ty.Rel (fun b => w.heap[b]?) (Fz.low w.heap.size) .bool x cs ∧ Ty.wr .bool x := by
      intro f off hf hr n cs y h hz
      simp only [seqFits] at hf
      split at hf
      · rename_i he
        obtain ⟨_, d, h2, h3, _⟩ := hd?_inv he
        have hu := (hT _ _ h2).und
        rw [h3] at hu
        obtain ⟨v, h4, _⟩ := DataW.trod_bool (show P.underlying f.2 = some .bool from hu) h
        exact ⟨v, h4, trivial⟩
      · cases hf
    refine ⟨A, fun fs off hf hr n cs hy => ?_⟩
    match fs, hf, hr, hy with
    | [f], hf, hr, hy => exact single _ A f off hf hr n cs hy
  | str =>
    intro _
    have A : ∀ (f : Nat × TypeId) (off : Nat), seqFits T .str off [f] = true → seqRoom P T .str [f] = true → ∀ (n : Nat) (cs : List Value) (y : DataW H × List MemPlace), DataW.trod enc P w base sp held n f.2 cs = some y → (∀ k ∈ y.1.weights P f.2, k ≤ reachBytes) → ∃ x : Ty.den .str, Ty.Rel (fun b => w.heap[b]?) (Fz.low w.heap.size) .str x cs ∧ Ty.wr .str x := by
      intro f off hf hr n cs y h hz
      simp only [seqFits] at hf
      split at hf
      · rename_i he
        obtain ⟨_, d, h2, h3, _⟩ := hd?_inv he
        have hu := (hT _ _ h2).und
        rw [h3] at hu
        obtain ⟨v, h4, _, h5⟩ := DataW.trod_string (show P.underlying f.2 = some .string from hu) h
        exact ⟨v, h4, h5⟩
      · cases hf
    refine ⟨A, fun fs off hf hr n cs hy => ?_⟩
    match fs, hf, hr, hy with
    | [f], hf, hr, hy => exact single _ A f off hf hr n cs hy
  | unit =>
    intro _
    have A : ∀ (f : Nat × TypeId) (off : Nat), seqFits T .unit off [f] = true → seqRoom P T .unit [f] = true → ∀ (n : Nat) (cs : List Value) (y : DataW H × List MemPlace), DataW.trod enc P w base sp held n f.2 cs = some y → (∀ k ∈ y.1.weights P f.2, k ≤ reachBytes) → ∃ x : Ty.den .unit, Ty.Rel (fun b => w.heap[b]?) (Fz.low w.heap.size) .unit x cs ∧ Ty.wr .unit x := by
      intro f off hf hr n cs y h hz
      simp only [seqFits] at hf
      split at hf
      · rename_i he
        obtain ⟨_, d, h2, h3, h4⟩ := hd?_inv he
        obtain ⟨h5, _⟩ := fields _ _ _ h2 h3 n cs y h hz
        exact ⟨(), List.length_eq_zero_iff.1 (h5.trans h4), trivial⟩
      · cases hf
    refine ⟨A, fun fs off hf hr n cs hy => ?_⟩
    match fs, hf, hr, hy with
    | [f], hf, hr, hy => exact single _ A f off hf hr n cs hy
  | one e ih =>
    intro hth
    have ih := ih hth
    have A : ∀ (f : Nat × TypeId) (off : Nat), seqFits T (.one e) off [f] = true → seqRoom P T (.one e) [f] = true → ∀ (n : Nat) (cs : List Value) (y : DataW H × List MemPlace), DataW.trod enc P w base sp held n f.2 cs = some y → (∀ k ∈ y.1.weights P f.2, k ≤ reachBytes) → ∃ x : Ty.den (.one e), Ty.Rel (fun b => w.heap[b]?) (Fz.low w.heap.size) (.one e) x cs ∧ Ty.wr (.one e) x := by
      intro f off hf hr n cs y h hz
      simp only [seqFits] at hf
      split at hf
      · rename_i g he
        obtain ⟨_, d, h2, h3, h4⟩ := hd?_inv he
        have hr : seqRoom P T e [g] = true := by
          obtain ⟨fo, ft⟩ := f
          obtain ⟨du, ds, dc, dd⟩ := d
          simp only at h3
          subst h3
          simpa [seqRoom, h2] using hr
        obtain ⟨h5, m, h6⟩ := fields _ _ _ h2 h3 n cs y h hz
        obtain ⟨x, h7, h8⟩ := ih.2 [g] 0 hf hr m cs h6
        rw [List.drop_zero, List.take_of_length_le (by rw [h5, h4]; exact Nat.le_refl _)] at h7
        exact ⟨x, h7, h8⟩
      · cases hf
    refine ⟨A, fun fs off hf hr n cs hy => ?_⟩
    match fs, hf, hr, hy with
    | [f], hf, hr, hy => exact single _ A f off hf hr n cs hy
  | pair a b iha ihb =>
    intro hth
    simp only [Ty.thick, Bool.and_eq_true] at hth
    have iha := iha hth.1
    have ihb := ihb hth.2
    have A : ∀ (f : Nat × TypeId) (off : Nat), seqFits T (.pair a b) off [f] = true → seqRoom P T (.pair a b) [f] = true → ∀ (n : Nat) (cs : List Value) (y : DataW H × List MemPlace), DataW.trod enc P w base sp held n f.2 cs = some y → (∀ k ∈ y.1.weights P f.2, k ≤ reachBytes) → ∃ x : Ty.den (.pair a b), Ty.Rel (fun b => w.heap[b]?) (Fz.low w.heap.size) (.pair a b) x cs ∧ Ty.wr (.pair a b) x := by
      intro f off hf hr n cs y h hz
      simp only [seqFits] at hf
      split at hf
      · rename_i g h0 fs he
        rw [Bool.and_eq_true] at hf
        obtain ⟨_, d, h2, h3, h4⟩ := hd?_inv he
        obtain ⟨h5, m, h6⟩ := fields _ _ _ h2 h3 n cs y h hz
        have hr : seqRoom P T a [g] = true ∧ seqRoom P T b (h0 :: fs) = true := by
          obtain ⟨fo, ft⟩ := f
          obtain ⟨du, ds, dc, dd⟩ := d
          simp only at h3
          subst h3
          simpa [seqRoom, h2] using hr
        obtain ⟨x, h7, h8⟩ := iha.2 [g] 0 hf.1 hr.1 m cs fun q hq => h6 q (by simp at hq; simp [hq])
        obtain ⟨z, h9, h10⟩ := ihb.2 (h0 :: fs) a.size hf.2 hr.2 m cs fun q hq => h6 q (by simp at hq ⊢; exact .inr hq)
        refine ⟨(x, z), ⟨_, _, ?_, h7, h9⟩, h8, h10⟩
        rw [List.drop_zero, List.take_of_length_le (l := cs.drop a.size) (by rw [List.length_drop, h5, h4]; omega), List.take_append_drop]
      · cases hf
    refine ⟨A, fun fs off hf hr n cs hy => ?_⟩
    match fs, hf, hr, hy with
    | [f], hf, hr, hy => exact single _ A f off hf hr n cs hy
    | f :: g :: fs, hf, hr, hy =>
      simp only [seqFits, Bool.and_eq_true] at hf
      simp only [seqRoom, Bool.and_eq_true] at hr
      obtain ⟨x, h7, h8⟩ := iha.2 [f] off hf.1 hr.1 n cs fun q hq => hy q (by simp at hq; simp [hq])
      obtain ⟨z, h9, h10⟩ := ihb.2 (g :: fs) (off + a.size) hf.2 hr.2 n cs fun q hq => hy q (by simp at hq ⊢; exact .inr hq)
      refine ⟨(x, z), ⟨_, _, ?_, h7, h9⟩, h8, h10⟩
      show (cs.drop off).take (a.size + b.size) = _
      rw [List.take_add, List.drop_drop]
  | arr k e ih =>
    intro hth
    have ih := ih hth
    have A : ∀ (f : Nat × TypeId) (off : Nat), seqFits T (.arr k e) off [f] = true → seqRoom P T (.arr k e) [f] = true → ∀ (n : Nat) (cs : List Value) (y : DataW H × List MemPlace), DataW.trod enc P w base sp held n f.2 cs = some y → (∀ k ∈ y.1.weights P f.2, k ≤ reachBytes) → ∃ x : Ty.den (.arr k e), Ty.Rel (fun b => w.heap[b]?) (Fz.low w.heap.size) (.arr k e) x cs ∧ Ty.wr (.arr k e) x := by
      intro f off hf hr n cs y h hz
      simp only [seqFits] at hf
      split at hf
      · rename_i m g he
        rw [Bool.and_eq_true] at hf
        obtain rfl := Nat.eq_of_beq_eq_true hf.1
        obtain ⟨_, d, h2, h3, h4⟩ := hd?_inv he
        have hu := (hT _ _ h2).und
        rw [h3] at hu
        obtain ⟨_, dg, h5, _, h6⟩ := seqFits_one hf.2
        have hcg : P.cellsOf g = e.size := (cells_td (hT _ _ h5)).trans h6
        have hr : seqRoom P T e [(0, g)] = true := by
          obtain ⟨fo, ft⟩ := f
          obtain ⟨du, ds, dc, dd⟩ := d
          simp only at h3
          subst h3
          simpa [seqRoom, h2] using hr
        obtain ⟨xs, q, _, rfl, hl, hxl, hall⟩ := DataW.trod_array (show P.underlying f.2 = some (.array m g) from hu) h
        obtain ⟨zs, css, h7, h8, h9⟩ := build_list (Q := fun x c => Ty.Rel (fun b => w.heap[b]?) (Fz.low w.heap.size) e x c ∧ e.wr x) (c := e.size) m cs (by rw [hl, cells_td (hT _ _ h2), h4]) fun i hi => by
          have := hall i hi
          rw [hcg, List.getElem?_eq_getElem (by rw [hxl]; exact hi)] at this
          exact ih.1 (0, g) 0 hf.2 hr q _ _ this (weights_array (show P.underlying f.2 = some (.array m g) from hu) hz (i := i) (by rw [List.getElem?_map, List.getElem?_eq_getElem (by rw [hxl]; exact hi)]; rfl))
        refine ⟨zs, ⟨h7, css, h8, h9.mono fun _ _ h => h.1⟩, h7, fun x hx => ?_⟩
        obtain ⟨i, hi⟩ := List.getElem?_of_mem hx
        obtain ⟨c, _, hc⟩ := h9.get hi
        exact hc.2
      · cases hf
    refine ⟨A, fun fs off hf hr n cs hy => ?_⟩
    match fs, hf, hr, hy with
    | [f], hf, hr, hy => exact single _ A f off hf hr n cs hy
  | pref k => intro h; cases h
  | slice e ih =>
    intro hth
    simp only [Ty.thick, Bool.and_eq_true] at hth
    have hc0 : 0 < e.size := by simpa [Nat.blt_eq] using hth.1
    have ih := ih hth.2
    have A : ∀ (f : Nat × TypeId) (off : Nat), seqFits T (.slice e) off [f] = true → seqRoom P T (.slice e) [f] = true → ∀ (n : Nat) (cs : List Value) (y : DataW H × List MemPlace), DataW.trod enc P w base sp held n f.2 cs = some y → (∀ k ∈ y.1.weights P f.2, k ≤ reachBytes) → ∃ x : Ty.den (.slice e), Ty.Rel (fun b => w.heap[b]?) (Fz.low w.heap.size) (.slice e) x cs ∧ Ty.wr (.slice e) x := by
      intro f off hf hr n cs y h hz
      simp only [seqFits] at hf
      split at hf
      · rename_i g he
        obtain ⟨_, d, h2, h3, h4⟩ := hd?_inv he
        have hu := (hT _ _ h2).und
        rw [h3] at hu
        obtain ⟨_, dg, h5, _, h6⟩ := seqFits_one hf
        have hcg : P.cellsOf g = e.size := (cells_td (hT _ _ h5)).trans h6
        have hr : e.lo ≤ P.bytesOf g ∧ seqRoom P T e [(0, g)] = true := by
          obtain ⟨fo, ft⟩ := f
          obtain ⟨du, ds, dc, dd⟩ := d
          simp only at h3
          subst h3
          simpa [seqRoom, h2] using hr
        rcases DataW.trod_slice (show P.underlying f.2 = some (.slice g) from hu) h with ⟨rfl, _⟩ | ⟨a, len, cap, elems, rest, m, _, rfl, rfl, _, hle, hcap, hel, hall, _⟩
        · exact ⟨[], ⟨none, 0, 0, rfl, rfl, Nat.le_refl _, fun _ => rfl, fun h => absurd h (Nat.lt_irrefl _)⟩, ⟨Nat.zero_le _, by rw [List.length_nil, Nat.zero_mul]; exact Nat.zero_le _⟩, fun x hx => by cases hx⟩
        obtain ⟨hz1, hz2⟩ := weights_slice (show P.underlying f.2 = some (.slice g) from hu) hz
        rw [List.length_map, hel] at hz1
        rw [hcg] at hall
        by_cases hlen : len = 0
        · subst hlen
          exact ⟨[], ⟨some a, 0, cap, rfl, rfl, Nat.zero_le _, (fun e => by cases e), fun h => absurd h (Nat.lt_irrefl _)⟩, ⟨Nat.zero_le _, by rw [List.length_nil, Nat.zero_mul]; exact Nat.zero_le _⟩, fun x hx => by cases hx⟩
        -- each element's cells
        have chunk : ∀ i, i < len → ∃ ch y, (ch.length = e.size ∧ ∀ j, j < e.size → w.cell? ((a.add (i * e.size)).add j) = ch[j]?) ∧ DataW.trod enc P w base sp held m g ch = some y ∧ ∀ k ∈ y.1.weights P g, k ≤ reachBytes := by
          intro i hi
          have := hall i hi
          rw [List.getElem?_eq_getElem (by omega)] at this
          cases hch : w.cells? base (a.add (i * e.size)) e.size with
          | none => rw [hch] at this; cases this
          | some ch => rw [hch] at this; exact ⟨ch, _, (World.cells?_some hch).2, this, hz2 (i := i) (by rw [List.getElem?_map, List.getElem?_eq_getElem (by omega)]; rfl)⟩
        obtain ⟨ch0, _, ⟨hl0, hg0⟩, _⟩ := chunk 0 (by omega)
        have hcell := hg0 0 hc0
        rw [Nat.zero_mul] at hcell
        have ha0 : (a.add 0).add 0 = a := by simp [Addr.add]
        rw [ha0, List.getElem?_eq_getElem (by omega)] at hcell
        obtain ⟨b, o, spot⟩ := a
        unfold World.cell? at hcell
        simp only at hcell
        cases hb : w.heap[b]? with
        | none => rw [hb] at hcell; cases hcell
        | some ob =>
          rw [hb] at hcell
          cases ob with
          | cells C et fr =>
            simp only at hcell
            have hspot : spot = none := by
              cases spot with
              | none => rfl
              | some q => simp at hcell
            subst hspot
            have at_ : ∀ i, i < len → ∀ j, j < e.size → ∀ ch : List Value, w.cell? (((⟨b, o, none⟩ : Addr).add (i * e.size)).add j) = ch[j]? → C[o + (i * e.size + j)]? = ch[j]? := by
              intro i _ j _ ch hq
              rw [add_mk, add_mk, cell_of_heap hb, Nat.add_assoc] at hq
              exact hq
            have hlt : ∀ j, j < len * e.size → o + j < C.size := by
              intro j hj
              have hi : j / e.size < len := by rw [Nat.div_lt_iff_lt_mul hc0]; exact hj
              obtain ⟨ch, _, ⟨hl, hg⟩, _⟩ := chunk (j / e.size) hi
              have hm := Nat.mod_lt j hc0
              have := at_ _ hi (j % e.size) hm ch (hg _ hm)
              rw [List.getElem?_eq_getElem (by omega)] at this
              have := (Array.getElem?_eq_some_iff.1 this).1
              have e1 : j / e.size * e.size + j % e.size = j := by rw [Nat.mul_comm]; exact Nat.div_add_mod j e.size
              omega
            have hrow : ((C.toList.drop o).take (len * e.size)).length = len * e.size := by
              rw [List.length_take, List.length_drop]
              have := hlt (len * e.size - 1) (by have := Nat.mul_pos (Nat.pos_of_ne_zero hlen) hc0; omega)
              simp only [Array.length_toList]
              omega
            have hget : ∀ j, j < len * e.size → ((C.toList.drop o).take (len * e.size))[j]? = C[o + j]? := by
              intro j hj
              rw [List.getElem?_take, if_pos hj, List.getElem?_drop]
              simp
            obtain ⟨zs, css, h7, h8, h9⟩ := build_list (Q := fun x c => Ty.Rel (fun b => w.heap[b]?) (Fz.low w.heap.size) e x c ∧ e.wr x) (c := e.size) len _ hrow fun i hi => by
              obtain ⟨ch, y, ⟨hl, hg⟩, ht, htz⟩ := chunk i hi
              have hch : (((C.toList.drop o).take (len * e.size)).drop (i * e.size)).take e.size = ch := by
                apply List.ext_getElem?
                intro j
                rcases Nat.lt_or_ge j e.size with hj | hj
                · have hij : i * e.size + j < len * e.size := by
                    have : (i + 1) * e.size ≤ len * e.size := Nat.mul_le_mul_right _ hi
                    rw [Nat.succ_mul] at this; omega
                  rw [List.getElem?_take, if_pos hj, List.getElem?_drop, hget _ hij]
                  exact at_ i hi j hj ch (hg j hj)
                · rw [List.getElem?_eq_none (by rw [List.length_take]; omega), List.getElem?_eq_none (by omega)]
              rw [hch]
              exact ih.1 (0, g) 0 hf hr.2 m _ _ ht htz
            refine ⟨zs, ⟨some ⟨b, o, none⟩, len, cap, rfl, h7.symm, hle, (fun e => by cases e), fun _ => ⟨b, o, rfl, (show b < w.heap.size from (Array.getElem?_eq_some_iff.1 hb).1), css, ⟨C, et, fr, hb, fun j v hv => ?_⟩, h9.mono fun _ _ h => h.1⟩⟩, ⟨by rw [h7]; exact Nat.le_trans hle hcap, by rw [h7]; exact Nat.le_trans (Nat.mul_le_mul_left _ hr.1) hz1⟩, fun x hx => ?_⟩
            · rw [← h8] at hv
              have hj : j < len * e.size := by rw [← hrow]; exact (List.getElem?_eq_some_iff.1 hv).1
              rw [hget j hj] at hv
              exact hv
            · obtain ⟨i, hi⟩ := List.getElem?_of_mem hx
              obtain ⟨c, _, hc⟩ := h9.get hi
              exact hc.2
          | _ => cases hcell
      · cases hf
    refine ⟨A, fun fs off hf hr n cs hy => ?_⟩
    match fs, hf, hr, hy with
    | [f], hf, hr, hy => exact single _ A f off hf hr n cs hy

/-- An argument, read: data that lie where the argument says. -/
theorem read_argr (hT : TblOk P T) {t : Ty} {id : TypeId} (hf : fits T t id = true) (hr : fitsRoom P T t id = true) (hth : t.thick = true) {r : Reach} {b0 : Nat} {v : Value} {d : DataW H} {ps : List MemPlace} (hval : Value.okWide P w r b0 id v) (hd : DataW.Trod enc P w base sp held id v d ps) (hz : ∀ k ∈ d.weights P id, k ≤ reachBytes) :
    ∃ x : t.den, (AVal.dat false t x).V (ctx0 w) v ∧ t.wr x := by
  obtain ⟨fuel, hd⟩ := hd
  obtain ⟨x, h1, h2⟩ := (read_seqr hT t hth).1 (0, id) 0 hf hr fuel _ _ hd hz
  refine ⟨x, ?_, h2⟩
  have h1 : t.Rel (ctx0 w).h ((ctx0 w).F false) x v.cells.toList := Ty.Rel.congr ⟨fun b hb => ⟨hb, rfl⟩, fun _ _ _ h => h⟩ _ _ _ h1
  have one : t.agg = false → v.cells.toList = [v] → (AVal.dat false t x).V (ctx0 w) v := by
    intro ha e
    unfold AVal.V
    rw [if_neg (by show ¬ t.agg = true; rw [ha]; simp), ← e]
    exact h1
  have many : t.agg = true → (∃ cs, v = .agg cs) → (AVal.dat false t x).V (ctx0 w) v := by
    rintro ha ⟨cs, rfl⟩
    unfold AVal.V
    rw [if_pos (show (AVal.dat false t x).agg = true from ha)]
    exact ⟨cs, rfl, h1⟩
  have undAt : ∀ {u : Und} {sz : Nat}, hd? T sz 0 (0, id) = some u → UndOk P id u := by
    intro u sz he
    obtain ⟨_, dd, h3, h4, _⟩ := hd?_inv he
    rw [← h4]; exact (hT _ _ h3).und
  unfold fits at hf
  cases t with
  | int k =>
    simp only [seqFits] at hf
    split at hf
    · rename_i k' he; exact one rfl (cells_self (.inr (.inr (.inl ⟨k', undAt he⟩))) hval)
    · cases hf
  | bool =>
    simp only [seqFits] at hf
    split at hf
    · rename_i he; exact one rfl (cells_self (.inl (undAt he)) hval)
    · cases hf
  | str =>
    simp only [seqFits] at hf
    split at hf
    · rename_i he; exact one rfl (cells_self (.inr (.inl (undAt he))) hval)
    · cases hf
  | pref k => cases hth
  | slice e =>
    simp only [seqFits] at hf
    split at hf
    · rename_i g he; exact one rfl (cells_self (.inr (.inr (.inr ⟨g, undAt he⟩))) hval)
    · cases hf
  | unit =>
    simp only [seqFits] at hf
    split at hf
    · rename_i he
      obtain ⟨fields, hu, _⟩ := undAt he
      unfold Value.okWide at hval
      rw [hu] at hval
      obtain ⟨cs, rfl, _⟩ := hval
      exact many rfl ⟨cs, rfl⟩
    · cases hf
  | one e =>
    simp only [seqFits] at hf
    split at hf
    · rename_i g he
      obtain ⟨fields, hu, _⟩ := undAt he
      unfold Value.okWide at hval
      rw [hu] at hval
      obtain ⟨cs, rfl, _⟩ := hval
      exact many rfl ⟨cs, rfl⟩
    · cases hf
  | pair a b =>
    simp only [seqFits] at hf
    split at hf
    · rename_i g h0 fs he
      obtain ⟨fields, hu, _⟩ := undAt he
      unfold Value.okWide at hval
      rw [hu] at hval
      obtain ⟨cs, rfl, _⟩ := hval
      exact many rfl ⟨cs, rfl⟩
    · cases hf
  | arr n e =>
    simp only [seqFits] at hf
    split at hf
    · rename_i m g he
      have hu : P.underlying id = some (.array m g) := undAt he
      unfold Value.okWide at hval
      rw [hu] at hval
      obtain ⟨cs, rfl, _⟩ := hval
      exact many rfl ⟨cs, rfl⟩
    · cases hf

end
end Go.Am

/- Helps for plain laws: loops over an index; maps. -/
namespace Go.Am

/-- A loop over an index: at each step an answer, or what goes on. -/
def forI {S R : Type} (f : Nat → S → Option R ⊕ S) (fin : S → Option R) : Nat → Nat → S → Option R
  | 0, _, s => fin s
  | k + 1, i, s => match f i s with
    | .inl r => r
    | .inr s' => forI f fin k (i + 1) s'

theorem for_loop {S R X : Type} {L : Nat → X → Option R} {step : (X → Option R) → X → Option R} (hL : ∀ n x, L (n + 1) x = step (L n) x) (st : Nat → S → X) (len : Nat) (I : Nat → S → Prop) (f : Nat → S → Option R ⊕ S) (fin : S → Option R)
    (h1 : ∀ F i s, i < len → I i s → step F (st i s) = match f i s with | .inl r => r | .inr s' => F (st (i + 1) s'))
    (h2 : ∀ F s, I len s → step F (st len s) = fin s)
    (hI : ∀ i s s', i < len → I i s → f i s = .inr s' → I (i + 1) s') :
    ∀ (k i : Nat) (s : S) (n : Nat), i + k = len → k < n → I i s → L n (st i s) = forI f fin k i s := by
  intro k
  induction k with
  | zero =>
    intro i s n hi hn hs
    obtain ⟨n, rfl⟩ : ∃ m, n = m + 1 := ⟨n - 1, by omega⟩
    obtain rfl : i = len := by omega
    rw [hL, h2 _ _ hs]; rfl
  | succ k ih =>
    intro i s n hi hn hs
    obtain ⟨n, rfl⟩ : ∃ m, n = m + 1 := ⟨n - 1, by omega⟩
    rw [hL, h1 _ _ _ (by omega) hs]
    unfold forI
    cases hf : f i s with
    | inl r => rfl
    | inr s' => exact ih (i + 1) s' n (by omega) (by omega) (hI i s s' (by omega) hs hf)

/-- A loop that only goes on. -/
def foldI {S : Type} (g : Nat → S → S) : Nat → Nat → S → S
  | 0, _, s => s
  | k + 1, i, s => foldI g k (i + 1) (g i s)
theorem forI_fold {S R : Type} (g : Nat → S → S) (fin : S → Option R) : ∀ k i s, forI (fun i s => .inr (g i s)) fin k i s = fin (foldI g k i s)
  | 0, _, _ => rfl
  | k + 1, i, s => forI_fold g fin k (i + 1) (g i s)
/-- Over a list. -/
theorem foldI_list {S α : Type} (l : List α) (g : S → α → S) (d : α) : ∀ (k i : Nat) (s : S), i + k = l.length → foldI (fun i s => g s (l.getD i d)) k i s = (l.drop i).foldl g s
  | 0, i, s, h => by rw [List.drop_eq_nil_of_le (by omega)]; rfl
  | k + 1, i, s, h => by
    rw [List.drop_eq_getElem_cons (by omega), List.foldl_cons]
    show foldI _ k (i + 1) _ = _
    rw [foldI_list l g d k (i + 1) _ (by omega)]
    simp only [List.getD_eq_getElem?_getD, List.getElem?_eq_getElem (show i < l.length by omega), Option.getD_some]

/-- A loop over a list that may end with an answer. -/
def forL {S R α : Type} (f : S → α → Option R ⊕ S) (fin : S → Option R) : List α → S → Option R
  | [], s => fin s
  | x :: l, s => match f s x with
    | .inl r => r
    | .inr s' => forL f fin l s'
theorem forI_list {S R α : Type} (l : List α) (f : S → α → Option R ⊕ S) (fin : S → Option R) (d : α) : ∀ (k i : Nat) (s : S), i + k = l.length → forI (fun i s => f s (l.getD i d)) fin k i s = forL f fin (l.drop i) s
  | 0, i, s, h => by rw [List.drop_eq_nil_of_le (by omega)]; rfl
  | k + 1, i, s, h => by
    rw [List.drop_eq_getElem_cons (by omega)]
    unfold forI forL
    rw [show l.getD i d = l[i]'(by omega) by rw [List.getD_eq_getElem?_getD, List.getElem?_eq_getElem (by omega)]; rfl]
    cases f s (l[i]'(by omega)) with
    | inl r => rfl
    | inr s' => exact forI_list l f fin d k (i + 1) s' (by omega)
/-- A loop through a list by an index. -/
theorem list_loop {S R X α : Type} {L : Nat → X → Option R} {step : (X → Option R) → X → Option R} (hL : ∀ n x, L (n + 1) x = step (L n) x) (l : List α) (st : Nat → S → X) (I : S → Prop) (f : S → α → Option R ⊕ S) (fin : S → Option R)
    (h1 : ∀ F i s, (h : i < l.length) → I s → step F (st i s) = match f s l[i] with | .inl r => r | .inr s' => F (st (i + 1) s'))
    (h2 : ∀ F s, I s → step F (st l.length s) = fin s)
    (hI : ∀ x s s', x ∈ l → I s → f s x = .inr s' → I s') (s : S) (hs : I s) (n : Nat) (hn : l.length < n) : L n (st 0 s) = forL f fin l s := by
  have : ∀ (k i : Nat) (s : S) (n : Nat), i + k = l.length → k < n → I s → L n (st i s) = forL f fin (l.drop i) s := by
    intro k
    induction k with
    | zero =>
      intro i s n hi hn hs
      obtain ⟨n, rfl⟩ : ∃ m, n = m + 1 := ⟨n - 1, by omega⟩
      obtain rfl : i = l.length := by omega
      rw [hL, h2 _ _ hs, List.drop_length]; rfl
    | succ k ih =>
      intro i s n hi hn hs
      obtain ⟨n, rfl⟩ : ∃ m, n = m + 1 := ⟨n - 1, by omega⟩
      have hl : i < l.length := by omega
      rw [hL, h1 _ _ _ hl hs, List.drop_eq_getElem_cons hl]
      unfold forL
      cases hf : f s l[i] with
      | inl r => rfl
      | inr s' => exact ih (i + 1) s' n (by omega) (by omega) (hI _ s s' (List.getElem_mem hl) hs hf)
  simpa using this l.length 0 s n (by omega) hn hs
/-- One that looks whether all are so, and gathers. -/
theorem forL_gather {S R α : Type} (p : α → Bool) (g : S → α → S) (no : Option R) (fin : S → Option R) : ∀ (l : List α) (s : S), forL (fun s x => bif p x then .inr (g s x) else .inl no) fin l s = bif l.all p then fin (l.foldl g s) else no
  | [], s => rfl
  | x :: l, s => by
    unfold forL
    cases hp : p x
    · simp [hp]
    · simp only [cond_true, List.all_cons, hp, Bool.true_and, List.foldl_cons]
      exact forL_gather p g no fin l (g s x)
/-- One that only gathers. -/
theorem forL_fold {S R α : Type} (g : S → α → S) (fin : S → Option R) : ∀ (l : List α) (s : S), forL (fun s x => .inr (g s x)) fin l s = fin (l.foldl g s)
  | [], _ => rfl
  | x :: l, s => forL_fold g fin l (g s x)
/-- One that looks whether all are so. -/
theorem forL_all {R α : Type} (p : α → Bool) (no yes : Option R) : ∀ l : List α, forL (fun (_ : Unit) x => bif p x then .inr () else .inl no) (fun _ => yes) l () = bif l.all p then yes else no
  | [] => rfl
  | x :: l => by
    unfold forL
    cases hp : p x
    · simp [hp]
    · simp only [cond_true, List.all_cons, hp, Bool.true_and]
      exact forL_all p no yes l

section
variable {K V : Ty}
/-- What a map says, and that it is whole. -/
structure Whole (d : MD K V) : Prop where
  len : d.2.1.length = d.1.length
  nodup : d.2.1.Nodup
  below : ∀ b ∈ d.2.1, b < d.2.2
theorem whole_nil : Whole (K := K) (V := V) ([], [], 0) := ⟨rfl, List.nodup_nil, fun _ h => by cases h⟩

theorem midx_none {k : K.den} : ∀ {l : List (K.den × V.den)}, midx K V k l = none ↔ ∀ e ∈ l, K.eqB k e.1 = false
  | [] => by simp [midx]
  | e :: l => by
    simp only [midx, List.mem_cons, forall_eq_or_imp]
    cases hk : K.eqB k e.1 with
    | true => simp
    | false =>
      simp only [cond_false, true_and]
      rw [← midx_none (k := k) (l := l)]
      cases midx K V k l <;> simp
theorem findIdx_at {b : Nat} : ∀ {l : List Nat} {i : Nat}, l.Nodup → l[i]? = some b → l.findIdx? (fun (c : Nat) => (c : Int) == (b : Int)) = some i
  | [], i, _, h => by simp at h
  | c :: l, 0, _, h => by
    obtain rfl : c = b := by simpa using h
    rw [List.findIdx?_cons, if_pos (by simp)]
  | c :: l, i + 1, hn, h => by
    simp only [List.getElem?_cons_succ] at h
    rw [List.nodup_cons] at hn
    have : c ≠ b := fun e => hn.1 (e ▸ List.mem_of_getElem? h)
    rw [List.findIdx?_cons, if_neg (by simpa [Int.ofNat_inj] using this), findIdx_at hn.2 h]; rfl

/-- An entry, and then its value: as if it were put there. -/
theorem bump_eq (keys : ∀ k k' : K.den, K.eqB k k' = true → k = k') (k : K.den) (z v : V.den) (d : MD K V) (w : Whole d) : mstore K V (ment K V k z d).1.2 v (ment K V k z d).2 = some (mput K V k v d) := by
  obtain ⟨m, bs, clk⟩ := d
  unfold ment mput mstore
  cases hi : midx K V k m with
  | some i =>
    have hl := midx_lt K V k m i hi
    have hb : bs[i]? = some (bs.getD i 0) := by rw [List.getD_eq_getElem?_getD, List.getElem?_eq_getElem (by have := w.len; simp at this; omega)]; rfl
    simp only
    rw [findIdx_at w.nodup hb]
    simp only [Option.some.injEq, Prod.mk.injEq, and_true]
    apply List.ext_getElem?
    intro j
    rw [List.getElem?_modify, List.getElem?_set]
    split
    · rename_i ij
      subst ij
      have e1 := midx_eq k m i hi (List.getElem?_eq_getElem hl)
      rw [List.getElem?_eq_getElem hl]
      simp [keys _ _ e1, hl]
    · rename_i ij; cases m[j]? <;> simp [ij]
  | none =>
    have hn : (bs ++ [clk]).Nodup := List.nodup_append.2 ⟨w.nodup, by simp, fun a ha b hb => by
      simp at hb; subst hb
      have := w.below a ha
      simp at this; omega⟩
    have hl : m.length = bs.length := w.len.symm
    simp only
    rw [findIdx_at (i := bs.length) hn (by simp)]
    simp only [Option.some.injEq, Prod.mk.injEq, and_true]
    apply List.ext_getElem?
    intro j
    rw [List.getElem?_modify]
    by_cases h1 : j < m.length
    · rw [List.getElem?_append_left h1, List.getElem?_append_left h1]
      have : bs.length ≠ j := by omega
      cases m[j]? <;> simp [this]
    · rw [List.getElem?_append_right (by omega), List.getElem?_append_right (by omega)]
      cases hj : j - m.length with
      | zero =>
        have : bs.length = j := by omega
        simp [this]
      | succ q => rfl

theorem whole_mput (k : K.den) (v : V.den) (d : MD K V) (w : Whole d) : Whole (mput K V k v d) := by
  obtain ⟨m, bs, clk⟩ := d
  unfold mput
  cases midx K V k m with
  | some i => exact ⟨by simpa using w.len, w.nodup, w.below⟩
  | none =>
    refine ⟨by have := w.len; simp at this; simp [this], List.nodup_append.2 ⟨w.nodup, by simp, fun a ha b hb => ?_⟩, fun b hb => ?_⟩
    · simp at hb; subst hb
      have := w.below a ha
      simp at this; omega
    · simp only [List.mem_append, List.mem_singleton] at hb
      rcases hb with hb | rfl
      · have := w.below b hb; simp at this; simp only; omega
      · simp

theorem mfind_append (k : K.den) : ∀ (l l' : List (K.den × V.den)), mfind K V k (l ++ l') = (mfind K V k l).orElse fun _ => mfind K V k l'
  | [], l' => by simp [mfind]
  | e :: l, l' => by
    simp only [List.cons_append, mfind]
    cases K.eqB k e.1
    · exact mfind_append k l l'
    · rfl

/-- What is found behind a putting. -/
theorem mfind_mput [DecidableEq K.den] (same : ∀ k k' : K.den, K.eqB k k' = decide (k = k')) (k k' : K.den) (v : V.den) (d : MD K V) : mfind K V k' (mput K V k v d).1 = if k' = k then some v else mfind K V k' d.1 := by
  obtain ⟨m, bs, clk⟩ := d
  unfold mput
  cases hi : midx K V k m with
  | none =>
    simp only
    rw [mfind_append]
    have hno := midx_none.1 hi
    by_cases e : k' = k
    · subst e
      have : mfind K V k' m = none := by
        rw [mfind_idx, hi]; rfl
      rw [this, if_pos rfl]
      simp [mfind, same]
    · rw [if_neg e]
      simp [mfind, same, e]
  | some i =>
    simp only
    -- the list with that entry's value
    have aux : ∀ (m : List (K.den × V.den)) (i : Nat), midx K V k m = some i → mfind K V k' (m.set i (k, v)) = if k' = k then some v else mfind K V k' m := by
      intro m
      induction m with
      | nil => intro i h; cases h
      | cons e m ih =>
        intro i h
        simp only [midx, same] at h
        by_cases c : k = e.1
        · rw [decide_eq_true c] at h
          cases h
          simp only [List.set_cons_zero, mfind, same]
          by_cases e' : k' = k
          · rw [decide_eq_true e', if_pos e']; rfl
          · rw [decide_eq_false e', if_neg e', ← c, decide_eq_false e']; rfl
        · rw [decide_eq_false c] at h
          simp only [cond_false] at h
          split at h
          · rename_i j hj
            cases h
            simp only [List.set_cons_succ, mfind, same]
            by_cases e' : k' = e.1
            · have : k' ≠ k := fun g => c (g ▸ e')
              rw [decide_eq_true e', if_neg this]; rfl
            · rw [decide_eq_false e']
              exact ih j hj
          · cases h
    exact aux m i hi

/-- The keys, in the order in which they came. -/
def kadd {α : Type} [DecidableEq α] (ks : List α) (k : α) : List α := if k ∈ ks then ks else ks ++ [k]
theorem keys_mput [DecidableEq K.den] (same : ∀ k k' : K.den, K.eqB k k' = decide (k = k')) (k : K.den) (v : V.den) (d : MD K V) : (mput K V k v d).1.map (·.1) = kadd (d.1.map (·.1)) k := by
  obtain ⟨m, bs, clk⟩ := d
  unfold mput kadd
  cases hi : midx K V k m with
  | none =>
    have hno := midx_none.1 hi
    rw [if_neg]
    · simp
    · intro h
      simp only [List.mem_map] at h
      obtain ⟨e, he, e1⟩ := h
      have := hno e he
      rw [same, e1] at this
      simp at this
  | some i =>
    have hl := midx_lt K V k m i hi
    have e1 := midx_eq k m i hi (List.getElem?_eq_getElem hl)
    rw [same] at e1
    have e1 := of_decide_eq_true e1
    rw [if_pos (List.mem_map.2 ⟨m[i], List.getElem_mem hl, e1.symm⟩)]
    simp only
    rw [List.map_set]
    apply set_same
    rw [List.getElem?_map, List.getElem?_eq_getElem hl, e1]; rfl
theorem kadd_len {α : Type} [DecidableEq α] : ∀ (l : List α) (ks : List α), ks.Nodup → (l.foldl kadd ks).length ≤ ks.length + l.length ∧ ((l.foldl kadd ks).length = ks.length + l.length ↔ (ks ++ l).Nodup)
  | [], ks, h => by simp [h]
  | x :: l, ks, h => by
    rw [List.foldl_cons]
    by_cases c : x ∈ ks
    · have e : kadd ks x = ks := if_pos c
      rw [e]
      have ih := kadd_len l ks h
      refine ⟨by simp only [List.length_cons]; omega, ⟨fun g => ?_, fun g => ?_⟩⟩
      · simp only [List.length_cons] at g; omega
      · exfalso
        rw [List.nodup_append] at g
        exact g.2.2 x c x (by simp) rfl
    · have e : kadd ks x = ks ++ [x] := if_neg c
      rw [e]
      have hn : (ks ++ [x]).Nodup := List.nodup_append.2 ⟨h, by simp, fun a ha b hb => by simp at hb; subst hb; exact fun g => c (g ▸ ha)⟩
      have ih := kadd_len l (ks ++ [x]) hn
      rw [List.append_assoc, List.singleton_append, List.length_append, List.length_singleton] at ih
      simp only [List.length_cons]
      exact ⟨by omega, by rw [← ih.2]; omega⟩
end

section ranges
variable {A S R : Type}
theorem mleft_mem {seen : List Nat} {b : Nat} {e : A} : ∀ {m : List A} {bs : List Nat}, (b, e) ∈ mleft seen m bs → b ∈ bs ∧ e ∈ m
  | [], bs, h => by cases bs <;> cases h
  | x :: m, [], h => by cases h
  | x :: m, c :: bs, h => by
    simp only [mleft] at h
    cases hc : seen.contains c with
    | true => rw [hc] at h; have := mleft_mem h; exact ⟨by simp [this.1], by simp [this.2]⟩
    | false =>
      rw [hc] at h
      rcases List.mem_cons.1 h with h | h
      · cases h; simp
      · have := mleft_mem h; exact ⟨by simp [this.1], by simp [this.2]⟩
theorem mleft_skip {seen : List Nat} {b : Nat} : ∀ {m : List A} {bs : List Nat}, b ∉ bs → mleft (b :: seen) m bs = mleft seen m bs
  | [], bs, h => by cases bs <;> rfl
  | x :: m, [], h => rfl
  | x :: m, c :: bs, h => by
    rw [List.mem_cons, not_or] at h
    have ih := mleft_skip (seen := seen) (m := m) h.2
    have e : (b :: seen).contains c = seen.contains c := by
      rw [List.contains_cons]
      have : (c == b) = false := by simpa using fun e : c = b => h.1 e.symm
      rw [this, Bool.false_or]
    simp only [mleft, e, ih]
theorem mleft_take {seen : List Nat} {b : Nat} {e : A} : ∀ {m : List A} {bs : List Nat}, bs.Nodup → (b, e) ∈ mleft seen m bs → (mleft seen m bs).Perm ((b, e) :: mleft (b :: seen) m bs) ∧ mstamp m bs b = some e
  | [], bs, _, h => by cases bs <;> cases h
  | x :: m, [], _, h => by cases h
  | x :: m, c :: bs, hn, h => by
    rw [List.nodup_cons] at hn
    simp only [mleft] at h ⊢
    have ne : b ∈ bs → Nat.beq c b = false := fun hb => by
      cases hq : Nat.beq c b with
      | false => rfl
      | true => exact absurd (Nat.eq_of_beq_eq_true hq ▸ hb) hn.1
    cases hc : seen.contains c with
    | true =>
      rw [hc] at h
      obtain ⟨h1, h2⟩ := mleft_take hn.2 h
      have hb := ne (mleft_mem h).1
      have e1 : (b :: seen).contains c = true := by simp only [List.contains_cons, hc, Bool.or_true]
      rw [e1]
      exact ⟨h1, by simp only [mstamp, hb]; exact h2⟩
    | false =>
      rw [hc] at h
      by_cases hbc : b = c
      · subst hbc
        have he : e = x := by
          rcases List.mem_cons.1 h with h | h
          · cases h; rfl
          · exact absurd (mleft_mem h).1 hn.1
        subst he
        have e1 : (b :: seen).contains b = true := by simp
        rw [e1]
        simp only [cond_true, cond_false, mleft_skip hn.1]
        exact ⟨List.Perm.refl _, by simp only [mstamp, Nat.beq_refl, cond_true]⟩
      · have h : (b, e) ∈ mleft seen m bs := by
          rcases List.mem_cons.1 h with h | h
          · cases h; exact absurd rfl hbc
          · exact h
        obtain ⟨h1, h2⟩ := mleft_take hn.2 h
        have hb := ne (mleft_mem h).1
        have e1 : (b :: seen).contains c = false := by
          rw [List.contains_cons, hc, Bool.or_false]
          simpa using fun e => hbc e.symm
        rw [e1]
        simp only [cond_false]
        exact ⟨(h1.cons _).trans (.swap _ _ _), by simp only [mstamp, hb]; exact h2⟩
theorem mleft_nil : ∀ {m : List A} {bs : List Nat}, bs.length = m.length → (mleft [] m bs).map (·.2) = m
  | [], bs, h => by cases bs <;> rfl
  | x :: m, [], h => by cases h
  | x :: m, c :: bs, h => by
    have ih := mleft_nil (m := m) (bs := bs) (by simpa using h)
    simp only [mleft, List.contains_nil, cond_false, List.map_cons, ih]
theorem mleft_len {seen : List Nat} : ∀ {m : List A} {bs : List Nat}, (mleft seen m bs).length ≤ m.length
  | [], bs => by cases bs <;> exact Nat.le_refl _
  | x :: m, [] => Nat.zero_le _
  | x :: m, c :: bs => by
    have ih := mleft_len (seen := seen) (m := m) (bs := bs)
    simp only [mleft]
    cases seen.contains c
    · simp only [cond_false, List.length_cons]; omega
    · simp only [cond_true, List.length_cons]; omega

/-- A range over a map, where the order does not matter. -/
theorem range_loop (m : List A) (bs : List Nat) (hn : bs.Nodup) (Inv : S → Prop) (f : S → A → S) (hI : ∀ s, ∀ a ∈ m, Inv s → Inv (f s a)) (hf : ∀ a ∈ m, ∀ b ∈ m, ∀ s, f (f s a) b = f (f s b) a)
    (L : Nat → S → List Nat → Option R) (E : S → Option R)
    (hL : ∀ n s seen, Inv s → ∃ go, L (n + 1) s seen = nextP m bs seen (E s) go ∧ ∀ b e, mstamp m bs b = some e → e ∈ m → go b e = L n (f s e) (b :: seen)) :
    ∀ n s seen, Inv s → (mleft seen m bs).length < n → L n s seen = E ((mleft seen m bs).foldl (fun s p => f s p.2) s) := by
  intro n
  induction n with
  | zero => intro s seen _ h; omega
  | succ n ih =>
    intro s seen hs hlen
    obtain ⟨go, h1, h2⟩ := hL n s seen hs
    rw [h1]
    unfold nextP
    cases hm : mleft seen m bs with
    | nil => rfl
    | cons p l =>
      refine allEq_all (by simp) fun y hy => ?_
      obtain ⟨q, hq, rfl⟩ := List.mem_map.1 hy
      rw [← hm] at hq ⊢
      obtain ⟨hp, hst⟩ := mleft_take (b := q.1) (e := q.2) hn hq
      have hmem := (mleft_mem (b := q.1) (e := q.2) hq).2
      have hl := hp.length_eq
      rw [List.length_cons] at hl
      rw [h2 _ _ hst hmem, ih (f s q.2) (q.1 :: seen) (hI s q.2 hmem hs) (by omega)]
      have := hp.foldl_eq' (f := fun s p => f s p.2) (fun a ha b hb z => hf _ (mleft_mem (b := a.1) (e := a.2) ha).2 _ (mleft_mem (b := b.1) (e := b.2) hb).2 z) s
      rw [this]; rfl

/-- From its begin. -/
theorem range_all (m : List A) (bs : List Nat) (hl : bs.length = m.length) (hn : bs.Nodup) (Inv : S → Prop) (f : S → A → S) (hI : ∀ s, ∀ a ∈ m, Inv s → Inv (f s a)) (hf : ∀ a ∈ m, ∀ b ∈ m, ∀ s, f (f s a) b = f (f s b) a)
    (L : Nat → S → List Nat → Option R) (E : S → Option R)
    (hL : ∀ n s seen, Inv s → ∃ go, L (n + 1) s seen = nextP m bs seen (E s) go ∧ ∀ b e, mstamp m bs b = some e → e ∈ m → go b e = L n (f s e) (b :: seen))
    (s : S) (hs : Inv s) (n : Nat) (h : m.length < n) : L n s [] = E (m.foldl f s) := by
  rw [range_loop m bs hn Inv f hI hf L E hL n s [] hs (Nat.lt_of_le_of_lt mleft_len h)]
  congr 1
  rw [← List.foldl_map (f := fun (p : Nat × A) => p.2) (g := f), mleft_nil hl]

theorem allLt_of {n : Nat} : ∀ {bs : List Nat}, (∀ b ∈ bs, b < n) → allLt n bs = true
  | [], _ => rfl
  | b :: bs, h => by
    have h1 := h b (by simp)
    have h2 := allLt_of (n := n) (bs := bs) fun c hc => h c (List.mem_cons_of_mem _ hc)
    show (Nat.blt b n && allLt n bs) = true
    rw [h2, Bool.and_true, Nat.blt_eq]; exact h1
end ranges

section
variable {K V : Ty}
theorem filterMap_same {α β : Type} {f g : α → Option β} : ∀ {l : List α}, (∀ x ∈ l, f x = g x) → l.filterMap f = l.filterMap g
  | [], _ => rfl
  | x :: l, h => by
    rw [List.filterMap_cons, List.filterMap_cons, h x (by simp), filterMap_same fun y hy => h y (List.mem_cons_of_mem _ hy)]
/-- A map's entries, told key by key. -/
theorem perm_keys [DecidableEq K.den] (same : ∀ k k' : K.den, K.eqB k k' = decide (k = k')) : ∀ (m : List (K.den × V.den)) (ks : List K.den), (m.map (·.1)).Nodup → ks.Nodup → (∀ e ∈ m, e.1 ∈ ks) → m.Perm (ks.filterMap fun k => (mfind K V k m).map fun v => (k, v))
  | [], ks, _, _, _ => by
    have : (ks.filterMap fun k => (mfind K V k []).map fun v => (k, v)) = [] := List.filterMap_eq_nil_iff.2 fun k _ => rfl
    rw [this]
  | e :: m, ks, h1, h2, h3 => by
    rw [List.map_cons, List.nodup_cons] at h1
    have he := h3 e (by simp)
    have hp := List.perm_cons_erase he
    have hn := (hp.nodup_iff).1 h2
    rw [List.nodup_cons] at hn
    have ih := perm_keys same m (ks.erase e.1) h1.2 hn.2 (fun e' he' => by
      have h := h3 e' (by simp [he'])
      have hne : e'.1 ≠ e.1 := fun g => h1.1 (List.mem_map.2 ⟨e', he', g⟩)
      have := (hp.mem_iff).1 h
      rcases List.mem_cons.1 this with g | g
      · exact absurd g hne
      · exact g)
    refine List.Perm.trans ?_ (hp.symm.filterMap _)
    have hd : mfind K V e.1 (e :: m) = some e.2 := by simp [mfind, same]
    rw [List.filterMap_cons, hd]
    simp only [Option.map_some]
    refine List.Perm.cons _ (ih.trans ?_)
    rw [filterMap_same (l := ks.erase e.1) (g := fun k => (mfind K V k (e :: m)).map fun v => (k, v))]
    intro k hk
    have : k ≠ e.1 := fun g => hn.1 (g ▸ hk)
    simp [mfind, same, this]
theorem mfind_mem [DecidableEq K.den] (same : ∀ k k' : K.den, K.eqB k k' = decide (k = k')) {k : K.den} {v : V.den} : ∀ {m : List (K.den × V.den)}, mfind K V k m = some v → (k, v) ∈ m
  | [], h => by cases h
  | e :: m, h => by
    simp only [mfind, same] at h
    by_cases c : k = e.1
    · rw [decide_eq_true c] at h; cases h; rw [c]; simp
    · rw [decide_eq_false c] at h; exact List.mem_cons_of_mem _ (mfind_mem same h)
end
end Go.Am

/- The abstract machine, thirty-fifth part: what a reading of arguments says of their length, where their bulk is bound (printed by zi.py out of XAmZG). -/
namespace Go.Am
open Go.ChangeShapes Go.WideShapes

/-- Data of which each slice has at most B elements. -/
def Ty.few (B : Nat) : (t : Ty) → t.den → Prop
  | .int k, n => (Lit.int k n).wf = true
  | .bool, _ => True
  | .str, s => s.size ≤ maxLen
  | .unit, _ => True
  | .one t, x => Ty.few B t x
  | .pair a b, x => Ty.few B a x.1 ∧ Ty.few B b x.2
  | .arr n t, xs => xs.length = n ∧ ∀ x ∈ xs, Ty.few B t x
  | .slice t, xs => (xs.length ≤ maxLen ∧ xs.length ≤ B) ∧ ∀ x ∈ xs, Ty.few B t x
  | .pref _, _ => False

theorem Ty.few.wf {B : Nat} : ∀ (t : Ty) {x : t.den}, t.few B x → t.wf x
  | .int _, _, h => h
  | .bool, _, _ => trivial
  | .str, _, h => h
  | .unit, _, _ => trivial
  | .one t, _, h => Ty.few.wf t h
  | .pair a b, _, h => ⟨Ty.few.wf a h.1, Ty.few.wf b h.2⟩
  | .arr _ t, _, h => ⟨h.1, fun x hx => Ty.few.wf t (h.2 x hx)⟩
  | .slice t, _, h => ⟨h.1.1, fun x hx => Ty.few.wf t (h.2 x hx)⟩
  | .pref _, _, h => h

/-- What is told of a reading is told of its parts. -/
structure Handed {H : Type} (P : Program) (G : TypeId → DataW H → Prop) (B : Nat) : Prop where
  struct : ∀ {id : TypeId} {fields : Array Field}, P.underlying id = some (.struct fields) → ∀ {parts : List (DataW H)}, G id (.agg parts) → ∀ {i : Nat} {fl : Field} {d : DataW H}, fields[i]? = some fl → parts[i]? = some d → G fl.type d
  array : ∀ {id e : TypeId} {m : Nat}, P.underlying id = some (.array m e) → ∀ {parts : List (DataW H)}, G id (.agg parts) → ∀ {i : Nat} {d : DataW H}, parts[i]? = some d → G e d
  slice : ∀ {id e : TypeId}, P.underlying id = some (.slice e) → ∀ {elems spare : List (DataW H)}, G id (.slice elems spare) → elems.length ≤ B ∧ ∀ {i : Nat} {d : DataW H}, elems[i]? = some d → G e d

section
variable {P : Program} {T : Tbl} {H : Type} {enc : TypeId × Value → H} {w : World} {base : Nat} {sp : Nat → Bool} {held : Bool} {G : TypeId → DataW H → Prop} {B : Nat}

theorem read_seqf (hT : TblOk P T) (hG : Handed P G B) : ∀ (t : Ty), t.thick = true →
    (∀ (f : Nat × TypeId) (off : Nat), seqFits T t off [f] = true → seqRoom P T t [f] = true → ∀ (n : Nat) (cs : List Value) (y : DataW H × List MemPlace), DataW.trod enc P w base sp held n f.2 cs = some y → G f.2 y.1 →
      ∃ x : t.den, t.Rel (fun b => w.heap[b]?) (Fz.low w.heap.size) x cs ∧ t.few B x) ∧
    (∀ (fs : List (Nat × TypeId)) (off : Nat), seqFits T t off fs = true → seqRoom P T t fs = true → ∀ (n : Nat) (cs : List Value), (∀ f ∈ fs, ∃ y, DataW.trod enc P w base sp held n f.2 ((cs.drop f.1).take (P.cellsOf f.2)) = some y ∧ G f.2 y.1) →
      ∃ x : t.den, t.Rel (fun b => w.heap[b]?) (Fz.low w.heap.size) x ((cs.drop off).take t.size) ∧ t.few B x) := by
  have single : ∀ (t : Ty), (∀ (f : Nat × TypeId) (off : Nat), seqFits T t off [f] = true → seqRoom P T t [f] = true → ∀ (n : Nat) (cs : List Value) (y : DataW H × List MemPlace), DataW.trod enc P w base sp held n f.2 cs = some y → G f.2 y.1 →
      ∃ x : t.den, t.Rel (fun b => w.heap[b]?) (Fz.low w.heap.size) x cs ∧ t.few B x) →
      ∀ (f : Nat × TypeId) (off : Nat), seqFits T t off [f] = true → seqRoom P T t [f] = true → ∀ (n : Nat) (cs : List Value), (∀ g ∈ [f], ∃ y, DataW.trod enc P w base sp held n g.2 ((cs.drop g.1).take (P.cellsOf g.2)) = some y ∧ G g.2 y.1) →
      ∃ x : t.den, t.Rel (fun b => w.heap[b]?) (Fz.low w.heap.size) x ((cs.drop off).take t.size) ∧ t.few B x := by
    intro t A f off hf hr n cs hy
    obtain ⟨y, hy, hz⟩ := hy f (by simp)
    obtain ⟨h1, d, h2, _, h4⟩ := seqFits_one hf
    rw [cells_td (hT _ _ h2), h1, h4] at hy
    exact A f off hf hr n _ y hy hz
  -- what a struct's fields say
  have fields : ∀ (id : TypeId) (d : TD) (fs : List (Nat × TypeId)), T id = some d → d.und = .struct fs → ∀ (n : Nat) (cs : List Value) (y : DataW H × List MemPlace), DataW.trod enc P w base sp held n id cs = some y → G id y.1 →
      cs.length = d.size ∧ ∃ m, ∀ f ∈ fs, ∃ y, DataW.trod enc P w base sp held m f.2 ((cs.drop f.1).take (P.cellsOf f.2)) = some y ∧ G f.2 y.1 := by
    intro id d fs hd hu n cs y h hz
    have hok := hT _ _ hd
    have hund := hok.und
    rw [hu] at hund
    obtain ⟨fields, h1, h2, _⟩ := hund
    obtain ⟨xs, m, _, rfl, hl, hxl, hall⟩ := DataW.trod_struct h1 h
    refine ⟨by rw [hl, cells_td hok], m, fun f hf => ?_⟩
    rw [← h2, List.mem_map] at hf
    obtain ⟨fl, hfl, rfl⟩ := hf
    obtain ⟨i, hi⟩ := List.getElem?_of_mem hfl
    have hi' : fields[i]? = some fl := by simpa using hi
    have hlt : i < xs.length := by
      rw [hxl]
      rcases Nat.lt_or_ge i fields.size with h | h
      · exact h
      · rw [Array.getElem?_eq_none h] at hi'; cases hi'
    exact ⟨xs[i], by rw [hall i fl hi', List.getElem?_eq_getElem hlt], hG.struct h1 hz hi' (by rw [List.getElem?_map, List.getElem?_eq_getElem hlt]; rfl)⟩
  intro t
  induction t with
  | int k =>
    intro _
    have A : ∀ (f : Nat × TypeId) (off : Nat), seqFits T (.int k) off [f] = true → seqRoom P T (.int k) [f] = true → ∀ (n : Nat) (cs : List Value) (y : DataW H × List MemPlace), DataW.trod enc P w base sp held n f.2 cs = some y → G f.2 y.1 → ∃ x : Ty.den (.int k), Ty.Rel (fun b => w.heap[b]?) (Fz.low w.heap.size) (.int k) x cs ∧ Ty.few B (.int k) x := by
      intro f off hf hr n cs y h hz
      simp only [seqFits] at hf
      split at hf
      · rename_i k' he
        obtain ⟨_, d, h2, h3, _⟩ := hd?_inv he
        have hu := (hT _ _ h2).und
        rw [h3] at hu
        obtain rfl : k = k' := by simpa using hf
        obtain ⟨v, h4, _, h5⟩ := DataW.trod_int (show P.underlying f.2 = some (.int k) from hu) h
        exact ⟨v, h4, h5⟩
      · cases hf
    refine ⟨A, fun fs off hf hr n cs hy => ?_⟩
    match fs, hf, hr, hy with
    | [f], hf, hr, hy => exact single _ A f off hf hr n cs hy
  | bool =>
    intro _
    have A : ∀ (f : Nat × TypeId) (off : Nat), seqFits T .bool off [f] = true → seqRoom P T .bool [f] = true → ∀ (n : Nat) (cs : List Value) (y : DataW H × List MemPlace), DataW.trod enc P w base sp held n f.2 cs = some y → G f.2 y.1 → ∃ x : Ty.den .bool, Ty.Rel (fun b => w.heap[b]?) (Fz.low w.heap.size) .bool x cs ∧ Ty.wr .bool x := by
      intro f off hf hr n cs y h hz
      simp only [seqFits] at hf
      split at hf
      · rename_i he
        obtain ⟨_, d, h2, h3, _⟩ := hd?_inv he
        have hu := (hT _ _ h2).und
        rw [h3] at hu
        obtain ⟨v, h4, _⟩ := DataW.trod_bool (show P.underlying f.2 = some .bool from hu) h
        exact ⟨v, h4, trivial⟩
      · cases hf
    refine ⟨A, fun fs off hf hr n cs hy => ?_⟩
    match fs, hf, hr, hy with
    | [f], hf, hr, hy => exact single _ A f off hf hr n cs hy
  | str =>
    intro _
    have A : ∀ (f : Nat × TypeId) (off : Nat), seqFits T .str off [f] = true → seqRoom P T .str [f] = true → ∀ (n : Nat) (cs : List Value) (y : DataW H × List MemPlace), DataW.trod enc P w base sp held n f.2 cs = some y → G f.2 y.1 → ∃ x : Ty.den .str, Ty.Rel (fun b => w.heap[b]?) (Fz.low w.heap.size) .str x cs ∧ Ty.wr .str x := by
      intro f off hf hr n cs y h hz
      simp only [seqFits] at hf
      split at hf
      · rename_i he
        obtain ⟨_, d, h2, h3, _⟩ := hd?_inv he
        have hu := (hT _ _ h2).und
        rw [h3] at hu
        obtain ⟨v, h4, _, h5⟩ := DataW.trod_string (show P.underlying f.2 = some .string from hu) h
        exact ⟨v, h4, h5⟩
      · cases hf
    refine ⟨A, fun fs off hf hr n cs hy => ?_⟩
    match fs, hf, hr, hy with
    | [f], hf, hr, hy => exact single _ A f off hf hr n cs hy
  | unit =>
    intro _
    have A : ∀ (f : Nat × TypeId) (off : Nat), seqFits T .unit off [f] = true → seqRoom P T .unit [f] = true → ∀ (n : Nat) (cs : List Value) (y : DataW H × List MemPlace), DataW.trod enc P w base sp held n f.2 cs = some y → G f.2 y.1 → ∃ x : Ty.den .unit, Ty.Rel (fun b => w.heap[b]?) (Fz.low w.heap.size) .unit x cs ∧ Ty.wr .unit x := by
      intro f off hf hr n cs y h hz
      simp only [seqFits] at hf
      split at hf
      · rename_i he
        obtain ⟨_, d, h2, h3, h4⟩ := hd?_inv he
        obtain ⟨h5, _⟩ := fields _ _ _ h2 h3 n cs y h hz
        exact ⟨(), List.length_eq_zero_iff.1 (h5.trans h4), trivial⟩
      · cases hf
    refine ⟨A, fun fs off hf hr n cs hy => ?_⟩
    match fs, hf, hr, hy with
    | [f], hf, hr, hy => exact single _ A f off hf hr n cs hy
  | one e ih =>
    intro hth
    have ih := ih hth
    have A : ∀ (f : Nat × TypeId) (off : Nat), seqFits T (.one e) off [f] = true → seqRoom P T (.one e) [f] = true → ∀ (n : Nat) (cs : List Value) (y : DataW H × List MemPlace), DataW.trod enc P w base sp held n f.2 cs = some y → G f.2 y.1 → ∃ x : Ty.den (.one e), Ty.Rel (fun b => w.heap[b]?) (Fz.low w.heap.size) (.one e) x cs ∧ Ty.few B (.one e) x := by
      intro f off hf hr n cs y h hz
      simp only [seqFits] at hf
      split at hf
      · rename_i g he
        obtain ⟨_, d, h2, h3, h4⟩ := hd?_inv he
        have hr : seqRoom P T e [g] = true := by
          obtain ⟨fo, ft⟩ := f
          obtain ⟨du, ds, dc, dd⟩ := d
          simp only at h3
          subst h3
          simpa [seqRoom, h2] using hr
        obtain ⟨h5, m, h6⟩ := fields _ _ _ h2 h3 n cs y h hz
        obtain ⟨x, h7, h8⟩ := ih.2 [g] 0 hf hr m cs h6
        rw [List.drop_zero, List.take_of_length_le (by rw [h5, h4]; exact Nat.le_refl _)] at h7
        exact ⟨x, h7, h8⟩
      · cases hf
    refine ⟨A, fun fs off hf hr n cs hy => ?_⟩
    match fs, hf, hr, hy with
    | [f], hf, hr, hy => exact single _ A f off hf hr n cs hy
  | pair a b iha ihb =>
    intro hth
    simp only [Ty.thick, Bool.and_eq_true] at hth
    have iha := iha hth.1
    have ihb := ihb hth.2
    have A : ∀ (f : Nat × TypeId) (off : Nat), seqFits T (.pair a b) off [f] = true → seqRoom P T (.pair a b) [f] = true → ∀ (n : Nat) (cs : List Value) (y : DataW H × List MemPlace), DataW.trod enc P w base sp held n f.2 cs = some y → G f.2 y.1 → ∃ x : Ty.den (.pair a b), Ty.Rel (fun b => w.heap[b]?) (Fz.low w.heap.size) (.pair a b) x cs ∧ Ty.few B (.pair a b) x := by
      intro f off hf hr n cs y h hz
      simp only [seqFits] at hf
      split at hf
      · rename_i g h0 fs he
        rw [Bool.and_eq_true] at hf
        obtain ⟨_, d, h2, h3, h4⟩ := hd?_inv he
        obtain ⟨h5, m, h6⟩ := fields _ _ _ h2 h3 n cs y h hz
        have hr : seqRoom P T a [g] = true ∧ seqRoom P T b (h0 :: fs) = true := by
          obtain ⟨fo, ft⟩ := f
          obtain ⟨du, ds, dc, dd⟩ := d
          simp only at h3
          subst h3
          simpa [seqRoom, h2] using hr
        obtain ⟨x, h7, h8⟩ := iha.2 [g] 0 hf.1 hr.1 m cs fun q hq => h6 q (by simp at hq; simp [hq])
        obtain ⟨z, h9, h10⟩ := ihb.2 (h0 :: fs) a.size hf.2 hr.2 m cs fun q hq => h6 q (by simp at hq ⊢; exact .inr hq)
        refine ⟨(x, z), ⟨_, _, ?_, h7, h9⟩, h8, h10⟩
        rw [List.drop_zero, List.take_of_length_le (l := cs.drop a.size) (by rw [List.length_drop, h5, h4]; omega), List.take_append_drop]
      · cases hf
    refine ⟨A, fun fs off hf hr n cs hy => ?_⟩
    match fs, hf, hr, hy with
    | [f], hf, hr, hy => exact single _ A f off hf hr n cs hy
    | f :: g :: fs, hf, hr, hy =>
      simp only [seqFits, Bool.and_eq_true] at hf
      simp only [seqRoom, Bool.and_eq_true] at hr
      obtain ⟨x, h7, h8⟩ := iha.2 [f] off hf.1 hr.1 n cs fun q hq => hy q (by simp at hq; simp [hq])
      obtain ⟨z, h9, h10⟩ := ihb.2 (g :: fs) (off + a.size) hf.2 hr.2 n cs fun q hq => hy q (by simp at hq ⊢; exact .inr hq)
      refine ⟨(x, z), ⟨_, _, ?_, h7, h9⟩, h8, h10⟩
      show (cs.drop off).take (a.size + b.size) = _
      rw [List.take_add, List.drop_drop]
  | arr k e ih =>
    intro hth
    have ih := ih hth
    have A : ∀ (f : Nat × TypeId) (off : Nat), seqFits T (.arr k e) off [f] = true → seqRoom P T (.arr k e) [f] = true → ∀ (n : Nat) (cs : List Value) (y : DataW H × List MemPlace), DataW.trod enc P w base sp held n f.2 cs = some y → G f.2 y.1 → ∃ x : Ty.den (.arr k e), Ty.Rel (fun b => w.heap[b]?) (Fz.low w.heap.size) (.arr k e) x cs ∧ Ty.few B (.arr k e) x := by
      intro f off hf hr n cs y h hz
      simp only [seqFits] at hf
      split at hf
      · rename_i m g he
        rw [Bool.and_eq_true] at hf
        obtain rfl := Nat.eq_of_beq_eq_true hf.1
        obtain ⟨_, d, h2, h3, h4⟩ := hd?_inv he
        have hu := (hT _ _ h2).und
        rw [h3] at hu
        obtain ⟨_, dg, h5, _, h6⟩ := seqFits_one hf.2
        have hcg : P.cellsOf g = e.size := (cells_td (hT _ _ h5)).trans h6
        have hr : seqRoom P T e [(0, g)] = true := by
          obtain ⟨fo, ft⟩ := f
          obtain ⟨du, ds, dc, dd⟩ := d
          simp only at h3
          subst h3
          simpa [seqRoom, h2] using hr
        obtain ⟨xs, q, _, rfl, hl, hxl, hall⟩ := DataW.trod_array (show P.underlying f.2 = some (.array m g) from hu) h
        obtain ⟨zs, css, h7, h8, h9⟩ := build_list (Q := fun x c => Ty.Rel (fun b => w.heap[b]?) (Fz.low w.heap.size) e x c ∧ e.few B x) (c := e.size) m cs (by rw [hl, cells_td (hT _ _ h2), h4]) fun i hi => by
          have := hall i hi
          rw [hcg, List.getElem?_eq_getElem (by rw [hxl]; exact hi)] at this
          exact ih.1 (0, g) 0 hf.2 hr q _ _ this (hG.array (show P.underlying f.2 = some (.array m g) from hu) hz (i := i) (by rw [List.getElem?_map, List.getElem?_eq_getElem (by rw [hxl]; exact hi)]; rfl))
        refine ⟨zs, ⟨h7, css, h8, h9.mono fun _ _ h => h.1⟩, h7, fun x hx => ?_⟩
        obtain ⟨i, hi⟩ := List.getElem?_of_mem hx
        obtain ⟨c, _, hc⟩ := h9.get hi
        exact hc.2
      · cases hf
    refine ⟨A, fun fs off hf hr n cs hy => ?_⟩
    match fs, hf, hr, hy with
    | [f], hf, hr, hy => exact single _ A f off hf hr n cs hy
  | pref k => intro h; cases h
  | slice e ih =>
    intro hth
    simp only [Ty.thick, Bool.and_eq_true] at hth
    have hc0 : 0 < e.size := by simpa [Nat.blt_eq] using hth.1
    have ih := ih hth.2
    have A : ∀ (f : Nat × TypeId) (off : Nat), seqFits T (.slice e) off [f] = true → seqRoom P T (.slice e) [f] = true → ∀ (n : Nat) (cs : List Value) (y : DataW H × List MemPlace), DataW.trod enc P w base sp held n f.2 cs = some y → G f.2 y.1 → ∃ x : Ty.den (.slice e), Ty.Rel (fun b => w.heap[b]?) (Fz.low w.heap.size) (.slice e) x cs ∧ Ty.few B (.slice e) x := by
      intro f off hf hr n cs y h hz
      simp only [seqFits] at hf
      split at hf
      · rename_i g he
        obtain ⟨_, d, h2, h3, h4⟩ := hd?_inv he
        have hu := (hT _ _ h2).und
        rw [h3] at hu
        obtain ⟨_, dg, h5, _, h6⟩ := seqFits_one hf
        have hcg : P.cellsOf g = e.size := (cells_td (hT _ _ h5)).trans h6
        have hr : e.lo ≤ P.bytesOf g ∧ seqRoom P T e [(0, g)] = true := by
          obtain ⟨fo, ft⟩ := f
          obtain ⟨du, ds, dc, dd⟩ := d
          simp only at h3
          subst h3
          simpa [seqRoom, h2] using hr
        rcases DataW.trod_slice (show P.underlying f.2 = some (.slice g) from hu) h with ⟨rfl, _⟩ | ⟨a, len, cap, elems, rest, m, _, rfl, rfl, _, hle, hcap, hel, hall, _⟩
        · exact ⟨[], ⟨none, 0, 0, rfl, rfl, Nat.le_refl _, fun _ => rfl, fun h => absurd h (Nat.lt_irrefl _)⟩, ⟨Nat.zero_le _, Nat.zero_le _⟩, fun x hx => by cases hx⟩
        obtain ⟨hz1, hz2⟩ := hG.slice (show P.underlying f.2 = some (.slice g) from hu) hz
        rw [List.length_map, hel] at hz1
        rw [hcg] at hall
        by_cases hlen : len = 0
        · subst hlen
          exact ⟨[], ⟨some a, 0, cap, rfl, rfl, Nat.zero_le _, (fun e => by cases e), fun h => absurd h (Nat.lt_irrefl _)⟩, ⟨Nat.zero_le _, Nat.zero_le _⟩, fun x hx => by cases hx⟩
        -- each element's cells
        have chunk : ∀ i, i < len → ∃ ch y, (ch.length = e.size ∧ ∀ j, j < e.size → w.cell? ((a.add (i * e.size)).add j) = ch[j]?) ∧ DataW.trod enc P w base sp held m g ch = some y ∧ G g y.1 := by
          intro i hi
          have := hall i hi
          rw [List.getElem?_eq_getElem (by omega)] at this
          cases hch : w.cells? base (a.add (i * e.size)) e.size with
          | none => rw [hch] at this; cases this
          | some ch => rw [hch] at this; exact ⟨ch, _, (World.cells?_some hch).2, this, hz2 (i := i) (by rw [List.getElem?_map, List.getElem?_eq_getElem (by omega)]; rfl)⟩
        obtain ⟨ch0, _, ⟨hl0, hg0⟩, _⟩ := chunk 0 (by omega)
        have hcell := hg0 0 hc0
        rw [Nat.zero_mul] at hcell
        have ha0 : (a.add 0).add 0 = a := by simp [Addr.add]
        rw [ha0, List.getElem?_eq_getElem (by omega)] at hcell
        obtain ⟨b, o, spot⟩ := a
        unfold World.cell? at hcell
        simp only at hcell
        cases hb : w.heap[b]? with
        | none => rw [hb] at hcell; cases hcell
        | some ob =>
          rw [hb] at hcell
          cases ob with
          | cells C et fr =>
            simp only at hcell
            have hspot : spot = none := by
              cases spot with
              | none => rfl
              | some q => simp at hcell
            subst hspot
            have at_ : ∀ i, i < len → ∀ j, j < e.size → ∀ ch : List Value, w.cell? (((⟨b, o, none⟩ : Addr).add (i * e.size)).add j) = ch[j]? → C[o + (i * e.size + j)]? = ch[j]? := by
              intro i _ j _ ch hq
              rw [add_mk, add_mk, cell_of_heap hb, Nat.add_assoc] at hq
              exact hq
            have hlt : ∀ j, j < len * e.size → o + j < C.size := by
              intro j hj
              have hi : j / e.size < len := by rw [Nat.div_lt_iff_lt_mul hc0]; exact hj
              obtain ⟨ch, _, ⟨hl, hg⟩, _⟩ := chunk (j / e.size) hi
              have hm := Nat.mod_lt j hc0
              have := at_ _ hi (j % e.size) hm ch (hg _ hm)
              rw [List.getElem?_eq_getElem (by omega)] at this
              have := (Array.getElem?_eq_some_iff.1 this).1
              have e1 : j / e.size * e.size + j % e.size = j := by rw [Nat.mul_comm]; exact Nat.div_add_mod j e.size
              omega
            have hrow : ((C.toList.drop o).take (len * e.size)).length = len * e.size := by
              rw [List.length_take, List.length_drop]
              have := hlt (len * e.size - 1) (by have := Nat.mul_pos (Nat.pos_of_ne_zero hlen) hc0; omega)
              simp only [Array.length_toList]
              omega
            have hget : ∀ j, j < len * e.size → ((C.toList.drop o).take (len * e.size))[j]? = C[o + j]? := by
              intro j hj
              rw [List.getElem?_take, if_pos hj, List.getElem?_drop]
              simp
            obtain ⟨zs, css, h7, h8, h9⟩ := build_list (Q := fun x c => Ty.Rel (fun b => w.heap[b]?) (Fz.low w.heap.size) e x c ∧ e.few B x) (c := e.size) len _ hrow fun i hi => by
              obtain ⟨ch, y, ⟨hl, hg⟩, ht, htz⟩ := chunk i hi
              have hch : (((C.toList.drop o).take (len * e.size)).drop (i * e.size)).take e.size = ch := by
                apply List.ext_getElem?
                intro j
                rcases Nat.lt_or_ge j e.size with hj | hj
                · have hij : i * e.size + j < len * e.size := by
                    have : (i + 1) * e.size ≤ len * e.size := Nat.mul_le_mul_right _ hi
                    rw [Nat.succ_mul] at this; omega
                  rw [List.getElem?_take, if_pos hj, List.getElem?_drop, hget _ hij]
                  exact at_ i hi j hj ch (hg j hj)
                · rw [List.getElem?_eq_none (by rw [List.length_take]; omega), List.getElem?_eq_none (by omega)]
              rw [hch]
              exact ih.1 (0, g) 0 hf hr.2 m _ _ ht htz
            refine ⟨zs, ⟨some ⟨b, o, none⟩, len, cap, rfl, h7.symm, hle, (fun e => by cases e), fun _ => ⟨b, o, rfl, (show b < w.heap.size from (Array.getElem?_eq_some_iff.1 hb).1), css, ⟨C, et, fr, hb, fun j v hv => ?_⟩, h9.mono fun _ _ h => h.1⟩⟩, ⟨by rw [h7]; exact Nat.le_trans hle hcap, by rw [h7]; exact hz1⟩, fun x hx => ?_⟩
            · rw [← h8] at hv
              have hj : j < len * e.size := by rw [← hrow]; exact (List.getElem?_eq_some_iff.1 hv).1
              rw [hget j hj] at hv
              exact hv
            · obtain ⟨i, hi⟩ := List.getElem?_of_mem hx
              obtain ⟨c, _, hc⟩ := h9.get hi
              exact hc.2
          | _ => cases hcell
      · cases hf
    refine ⟨A, fun fs off hf hr n cs hy => ?_⟩
    match fs, hf, hr, hy with
    | [f], hf, hr, hy => exact single _ A f off hf hr n cs hy

/-- An argument, read: data that lie where the argument says. -/
theorem read_argf (hT : TblOk P T) (hG : Handed P G B) {t : Ty} {id : TypeId} (hf : fits T t id = true) (hr : fitsRoom P T t id = true) (hth : t.thick = true) {r : Reach} {b0 : Nat} {v : Value} {d : DataW H} {ps : List MemPlace} (hval : Value.okWide P w r b0 id v) (hd : DataW.Trod enc P w base sp held id v d ps) (hz : G id d) :
    ∃ x : t.den, (AVal.dat false t x).V (ctx0 w) v ∧ t.few B x := by
  obtain ⟨fuel, hd⟩ := hd
  obtain ⟨x, h1, h2⟩ := (read_seqf hT hG t hth).1 (0, id) 0 hf hr fuel _ _ hd hz
  refine ⟨x, ?_, h2⟩
  have h1 : t.Rel (ctx0 w).h ((ctx0 w).F false) x v.cells.toList := Ty.Rel.congr ⟨fun b hb => ⟨hb, rfl⟩, fun _ _ _ h => h⟩ _ _ _ h1
  have one : t.agg = false → v.cells.toList = [v] → (AVal.dat false t x).V (ctx0 w) v := by
    intro ha e
    unfold AVal.V
    rw [if_neg (by show ¬ t.agg = true; rw [ha]; simp), ← e]
    exact h1
  have many : t.agg = true → (∃ cs, v = .agg cs) → (AVal.dat false t x).V (ctx0 w) v := by
    rintro ha ⟨cs, rfl⟩
    unfold AVal.V
    rw [if_pos (show (AVal.dat false t x).agg = true from ha)]
    exact ⟨cs, rfl, h1⟩
  have undAt : ∀ {u : Und} {sz : Nat}, hd? T sz 0 (0, id) = some u → UndOk P id u := by
    intro u sz he
    obtain ⟨_, dd, h3, h4, _⟩ := hd?_inv he
    rw [← h4]; exact (hT _ _ h3).und
  unfold fits at hf
  cases t with
  | int k =>
    simp only [seqFits] at hf
    split at hf
    · rename_i k' he; exact one rfl (cells_self (.inr (.inr (.inl ⟨k', undAt he⟩))) hval)
    · cases hf
  | bool =>
    simp only [seqFits] at hf
    split at hf
    · rename_i he; exact one rfl (cells_self (.inl (undAt he)) hval)
    · cases hf
  | str =>
    simp only [seqFits] at hf
    split at hf
    · rename_i he; exact one rfl (cells_self (.inr (.inl (undAt he))) hval)
    · cases hf
  | pref k => cases hth
  | slice e =>
    simp only [seqFits] at hf
    split at hf
    · rename_i g he; exact one rfl (cells_self (.inr (.inr (.inr ⟨g, undAt he⟩))) hval)
    · cases hf
  | unit =>
    simp only [seqFits] at hf
    split at hf
    · rename_i he
      obtain ⟨fields, hu, _⟩ := undAt he
      unfold Value.okWide at hval
      rw [hu] at hval
      obtain ⟨cs, rfl, _⟩ := hval
      exact many rfl ⟨cs, rfl⟩
    · cases hf
  | one e =>
    simp only [seqFits] at hf
    split at hf
    · rename_i g he
      obtain ⟨fields, hu, _⟩ := undAt he
      unfold Value.okWide at hval
      rw [hu] at hval
      obtain ⟨cs, rfl, _⟩ := hval
      exact many rfl ⟨cs, rfl⟩
    · cases hf
  | pair a b =>
    simp only [seqFits] at hf
    split at hf
    · rename_i g h0 fs he
      obtain ⟨fields, hu, _⟩ := undAt he
      unfold Value.okWide at hval
      rw [hu] at hval
      obtain ⟨cs, rfl, _⟩ := hval
      exact many rfl ⟨cs, rfl⟩
    · cases hf
  | arr n e =>
    simp only [seqFits] at hf
    split at hf
    · rename_i m g he
      have hu : P.underlying id = some (.array m g) := undAt he
      unfold Value.okWide at hval
      rw [hu] at hval
      obtain ⟨cs, rfl, _⟩ := hval
      exact many rfl ⟨cs, rfl⟩
    · cases hf

end
end Go.Am
