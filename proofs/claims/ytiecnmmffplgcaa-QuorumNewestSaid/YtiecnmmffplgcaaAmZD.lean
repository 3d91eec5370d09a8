/- The abstract machine, thirtieth part: a law, from the run of its function. -/
import Derived.Test.YtiecnmmffplgcaaAmZC
import Derived.RowKit3
import Derived.ChangeSame
namespace Go.Am
open Go.ChangeShapes Go.WideShapes

section
variable {P : Program}

/-- Behind the call: what was there is as it was. -/
structure Calm (W W' : World) : Prop where
  kept : W.keptBut W' (fun _ => False)
  heap : ∀ b, b < W.heap.size → W'.heap[b]? = W.heap[b]?
  size : W.heap.size ≤ W'.heap.size

theorem calm_of_goes {W W' : World} {x x' : Ctx} (G : Goes x W x' W') (hno : ∀ b, ¬ Owned x b) : Calm W W' := by
  refine ⟨⟨G.os, G.output, fun i hi => ?_⟩, fun b hb => G.frame b hb (hno b), G.size⟩
  rw [G.frame i hi (hno i)]
  have : W.heap[i]? = some W.heap[i] := by simp [hi]
  rw [this]
  cases W.heap[i] with
  | cells c t fr => exact ⟨rfl, rfl, rfl, fun _ _ => rfl⟩
  | map es clock => exact .inr ⟨rfl, rfl⟩
  | _ => rfl

theorem Calm.frozen {W W' : World} (h : Calm W W') (a : Addr) (ha : a.block < W.heap.size) : W'.frozen? a = W.frozen? a := by
  unfold World.frozen?
  rw [h.heap _ ha]

/-- The state in which a law is called: all that is there may be read by anyone. -/
def ctx0 (W : World) : Ctx := ⟨fun b => W.heap[b]?, fun _ b => b < W.heap.size, fun _ => none, []⟩

theorem ctx0_mem (W : World) : Mem (ctx0 W) := by
  have ho : ∀ r, (ctx0 W).obj r = .free := fun r => by unfold Ctx.obj ctx0; simp
  refine ⟨fun r => ?_, fun r r' a a' _ l _ _ _ => ?_, fun p b hb => ⟨?_, fun r a l _ => ?_⟩, fun b hb => ?_⟩
  · rw [ho]; trivial
  · rw [ho] at l; cases l
  · show (W.heap[b]?).isSome = true
    simpa using (show b < W.heap.size from hb)
  · rw [ho] at l; cases l
  · exact hb

/-- What lies there is no one's to write. -/
theorem ctx0_own {W : World} {t : Ty} {d : t.den} {u : Value} (h : (AVal.dat false t d).V (ctx0 W) u) : (AVal.dat true t d).V (ctx0 W) u := h

theorem law_calls {f : FuncId} {fi : Fr} {plain : fi.den → Option (altsDen [(.d true .bool, [])])} (ok : FunOk P f (funOfA fi [(.d true .bool, [])] plain)) {y : fi.den} (hy : fi.dec (fi.vs y) [] = some y) (h : plain y = some true) {W : World} {vals : Array Value}
    (ha : All2 (fun v u => v.V (ctx0 W) u) (fi.vs y) vals.toList) : Calls P f vals W fun e W' => e = .returned (.bool true) ∧ Calm W W' := by
  obtain ⟨ret, objs', h1, _, h2⟩ := ok.run (AVal × List AObj) (fi.vs y) [] (fun v os => some (v, os)) (.dat true .bool true, []) (by
    unfold funOfA
    simp only [hy, h]; rfl)
  cases h1
  refine (h2 (ctx0 W) W vals (ctx0_mem W) rfl rfl ha).mono fun e W' hq => ?_
  obtain ⟨v, x', rfl, G, _, hv⟩ := hq
  rw [V_bool.1 hv]
  refine ⟨rfl, calm_of_goes G fun b hb => ?_⟩
  obtain ⟨r, a, l, _⟩ := hb
  have : (ctx0 W).obj r = .free := by unfold Ctx.obj ctx0; simp
  rw [this] at l; cases l
end
/-- What a law's statement asks behind the call, where all that was there is as it was. -/
theorem law_post {P : Program} {H : Type} {enc : TypeId × Value → H} {f : Func} {s : ChangeSpec} {apart fresh handsOn again : Bool} {W W' : World} {args : Array Value} {v : Value} {ds gs : List (DataW H)} {before pa pv : List MemPlace}
    (hW : DataW.Whole enc P f.params.toList s.vars apart W args.toList ds gs before) (calm : Calm W W')
    (hres : ∀ (b : Nat) (sp : Nat → Bool) (hd : Bool), DataW.TrodAll enc P W' b sp hd f.resultTypes.toList (v.resultList f.resultTypes.size) (s.fn H (ds ++ gs)).results [])
    (hargs : ∀ sp : Nat → Bool, (∀ p ∈ before, sp p.block = true) → DataW.TrodAll enc P W' 0 sp true f.params.toList args.toList (s.fn H (ds ++ gs)).args pa)
    (hvars : ∀ sp : Nat → Bool, (∀ p ∈ before, sp p.block = true) → DataW.TrodVars enc P W' sp s.vars (s.fn H (ds ++ gs)).vars pv) (hps : before = pa ++ pv)
    (hok : ∀ (j : Nat) (t : TypeId) (r : Value), f.resultTypes[j]? = some t → (v.resultList f.resultTypes.size)[j]? = some r → Value.okWide P W' .any 0 t r) :
    s.post enc P f apart fresh handsOn again W args v W' := by
  have old : ∀ p ∈ before, p.block < W.heap.size := fun p hp => hW.lt p hp
  have sp0 : ∀ p ∈ before, (fun b => decide (b < W.heap.size)) p.block = true := fun p hp => by simpa using old p hp
  subst hps
  refine ⟨ds, gs, _, [], pa, pv, hW, hres _ _ _, hargs _ sp0, hvars _ sp0, World.keptBut_mono (fun _ h => h.elim) calm.kept, fun _ => ?_⟩
  obtain ⟨_, _, _, _, _, hz, hn⟩ := hW
  refine ⟨hok, _, _, _, ⟨[] ++ pa, pv, trodAll_append (hargs _ fun _ _ => rfl) (hres _ _ _), hvars _ fun _ _ => rfl, rfl, fun b off hp => ?_, fun ha => ?_⟩, fun p hp _ => ?_⟩
  · have hp : MemPlace.cell b off ∈ pa ++ pv := by simpa using hp
    rw [calm.frozen _ (old _ hp)]
    exact hz b off hp
  · simpa using hn ha
  · simpa using hp
end Go.Am
