/- The abstract machine: ZJ ZK ZL ZM ZN ZO ZP. -/
import Derived.Test.YtbamjkhnnlekpaaAmZ
import Derived.OrdersIn
import Derived.LoopNIn
import Derived.RangeFuncFrom
import Derived.RangeFuncCalls
import Derived.RangeFuncNested
import Derived.Test.YtbamjkhnnlekpaaAmZC
import Derived.Test.YtbamjkhnnlekpaaAmZI
/- The abstract machine: what the machine's regions do, they do inside of a round of a range over a function, too. -/
namespace Go.Am
open Go.ChangeShapes Go.WideShapes
/-- The fence of a round, elsewhere wide. -/
abbrev inR (l : Nat) : Fence := Fence.wide.inRound l

theorem rowsIn_round {l n : Nat} {P : Program} {row : String} {args : Array Value} {w : World} {R : Value → World → Prop} (h : Rows P row args w R) : RowsIn (inR l) n P row args w R :=
  fun c cs _ => let ⟨v, w', r, s⟩ := h c cs; ⟨v, w', r, stepsIn_wide.2 s⟩

theorem wpIn_of_op {P : Program} {o : Oper} (hd : ∀ c, o.op ≠ .defer c) {l n : Nat} {a : Act} {w : World} {next next' : Act → World → Prop} {Q : Exit → Act → World → Prop} (hn : ∀ a w, next a w → next' a w) (h : o.wp P a w next Q) : o.wpIn (inR l) n P a w next' Q := by
  refine ⟨fun _ _ => trivial, ?_⟩
  rw [Oper.semAt_eq _ _ _ hd]
  unfold Oper.wp at h
  generalize (execOp a.eval o).run P w = r at h
  cases r with
  | ok nx w' =>
    cases nx with
    | value v => exact hn _ _ h
    | skip => exact hn _ _ h
    | defer d => exact hn _ _ h
    | enter f args =>
      refine ⟨(fun x => by cases x), CallsIn.inRound l (callsIn_wide.2 ?_)⟩
      refine Calls.mono (h : Calls P f args w' _) fun e w'' he => ?_
      cases e with
      | returned v => exact hn _ _ he
      | panicked c => exact he
      | outgrown => exact he
    | row row args => exact ⟨(fun x => by cases x), rowsIn_round (Rows.mono (h : Rows P row args w' _) fun v w'' hv => hn _ _ hv)⟩
    | _ => exact absurd h (by intro x; exact x)
  | halt s w' =>
    cases s with
    | panic v => exact h
    | _ => exact absurd h (by intro x; exact x)

theorem opsIn {P : Program} {ops : Array Oper} (hd : ∀ o ∈ ops, ∀ c, o.op ≠ .defer c) {l n : Nat} {Q : Exit → Act → World → Prop} (hq : ¬ LetsOut Q) : ∀ (L : List Nat) (a : Act) (w : World), wpOps P ops Q L a w → wpOpsIn (inR l) n P ops Q L a w
  | [], _, _, h => h
  | i :: rest, a, w, h => by
    unfold wpOps at h
    unfold wpOpsIn
    cases ho : ops[i]? with
    | none => rw [ho] at h; exact opsIn hd hq rest a w h
    | some o =>
      rw [ho] at h
      simp only at h ⊢
      have hmem : o ∈ ops := Array.mem_of_getElem? ho
      split
      · rename_i hw
        rw [if_pos hw] at h
        refine wpIn_of_op (hd o hmem) (fun a' w' h' => opsIn hd hq rest a' w' h') (h.resolve_right fun x => hq x.2)
      · rename_i hw
        rw [if_neg hw] at h
        exact ⟨fun _ _ => trivial, opsIn hd hq rest _ w h⟩

theorem anyIn {P : Program} {md : Region.Mode} {ops : Array Oper} (hd : ∀ o ∈ ops, ∀ c, o.op ≠ .defer c) {l n : Nat} {Q : Exit → Act → World → Prop} (hq : ¬ LetsOut Q) : ∀ (fuel : Nat) (listed : Array Bool) (a : Act) (w : World), wpAny P md ops Q fuel listed a w → wpAnyIn (inR l) n P md ops Q fuel listed a w
  | 0, _, _, _, h => h
  | fuel + 1, listed, a, w, h => by
    unfold wpAny at h
    unfold wpAnyIn
    refine ⟨h.1, fun i hi => ?_⟩
    have h2 := h.2 i hi
    unfold wpOp at h2
    unfold wpOpIn
    cases ho : ops[i]? with
    | none => rw [ho] at h2; exact anyIn hd hq fuel _ a w h2
    | some o =>
      rw [ho] at h2
      simp only at h2 ⊢
      have hmem : o ∈ ops := Array.mem_of_getElem? ho
      split
      · rename_i hw
        rw [if_pos hw] at h2
        exact wpIn_of_op (hd o hmem) (fun a' w' h' => anyIn hd hq fuel _ a' w' h') (h2.resolve_right fun x => hq x.2)
      · rename_i hw
        rw [if_neg hw] at h2
        exact ⟨fun _ _ => trivial, anyIn hd hq fuel _ _ w h2⟩

/-- No deferring. -/
def notDefer (o : Oper) : Bool := match o.op with
  | .defer _ => false
  | _ => true
def noDefer (ops : List AOp) : Bool := ops.all fun ao => notDefer ao.o
theorem noDefer_ops {ops : List AOp} (h : noDefer ops = true) : ∀ o ∈ (ops.map (·.o)).toArray, ∀ c, o.op ≠ .defer c := by
  intro o ho c e
  simp only [List.mem_toArray, List.mem_map] at ho
  obtain ⟨ao, h1, rfl⟩ := ho
  have := List.all_eq_true.1 h ao h1
  unfold notDefer at this
  rw [e] at this; cases this
/-- Code without loops and parts told elsewhere. -/
def ACode.plain : ACode → Bool
  | .region _ ops _ => noDefer ops
  | .wild _ pre o post => noDefer (pre ++ o :: post)
  | .seq c d | .cond _ c d | .either _ c d => c.plain && d.plain
  | .block _ c | .norm _ c | .fin _ c | .co _ c | .finco _ c => c.plain
  | .skip | .exit _ | .ret _ => true
  | _ => false

section
variable {P : Program} {T : Tbl} {fns : Fns} {R : Type} {x0 : Ctx} {w0 : World} {N fuel : Nat}
theorem region_soundIn (hT : TblOk P T) (hfns : FnsOk P fns) (hm : P.follows .mixedOrders = true) {ops : List AOp} {draw : Bool} (hok : regionOk N draw ops = true) {id : Nat} {Q : Exit → Act → World → Prop} {k : St → Option R} {z : R} {st : St} {a : Act} {w : World} {l n : Nat} (hnd : noDefer ops = true) (hlo : ¬ LetsOut Q)
    (hk : stepsK R T fns ops st k = some z) (C : Conc x0 w0 N st a w) (hQ : ∀ st' a' w', k st' = some z → Conc x0 w0 N st' a' w' → Q .normal a' w') : (Code.region id (ops.map (·.o)).toArray draw).wpIn (inR l) n P Q a w := by
  unfold regionOk at hok
  simp only [Bool.and_eq_true] at hok
  obtain ⟨⟨h1, h2⟩, h3⟩ := hok
  have hN : ∀ ao ∈ ops, dstOk N ao = true := List.all_eq_true.1 h1
  have hgd : ∀ ao ∈ ops, guardOk ops ao = true := List.all_eq_true.1 h2
  cases draw with
  | false =>
    refine wpIn_region (opsIn (noDefer_ops hnd) hlo _ _ _ ?_)
    have := steps_sound (x0 := x0) (w0 := w0) hT hfns ops hN hgd ops 0 (by simp) st a w hk C hQ
    rw [List.range_eq_range']
    simpa using this
  | true =>
    simp only [Bool.not_true, Bool.false_or] at h3
    obtain ⟨acc, G⟩ := good_of ops h3
    refine wpIn_region_any hm (anyIn (noDefer_ops hnd) hlo _ _ _ _ ?_)
    obtain ⟨⟨x, hσ, Gx, hdf, hs⟩, hsz⟩ := C
    have hleft : leftOf ops.length (Array.replicate ops.length false) = List.range ops.length := by
      unfold leftOf
      refine List.filter_eq_self.2 fun j hj => ?_
      rw [List.mem_range] at hj
      simp [Array.getD, hj]
    have hall : (List.range ops.length).filterMap (ops[·]?) = ops := by
      have : ∀ (l : List AOp) (n : Nat), ops.drop n = l → (List.range' n l.length).filterMap (ops[·]?) = l := by
        intro l
        induction l with
        | nil => intro n _; rfl
        | cons x l ih =>
          intro n hn
          have hx : ops[n]? = some x := by
            have := congrArg (·[0]?) hn
            simpa using this
          rw [List.length_cons, List.range'_succ, List.filterMap_cons, hx]
          simp only
          rw [ih (n + 1) (by rw [← List.drop_drop, hn]; rfl)]
      have h0 := this ops 0 (by simp)
      rw [List.range_eq_range']
      exact h0
    have hszA : (ops.map (·.o)).toArray.size = ops.length := by simp
    rw [hszA]
    refine any_sound (x0 := x0) (w0 := w0) (N := N) (k := k) (z := z) hT hfns ops G hN hgd hQ ops.length _ st a _ (by simp) (by rw [hleft]; simp) ?_ (by rw [hleft, hall]; exact hk) ?_
    · intro i x hx hl
      have := (List.getElem?_eq_some_iff.1 hx).1
      simp [Array.getD, this] at hl
    · exact ⟨⟨x, hσ, Gx.trans (Goes.drew Gx.mem Gx.h _), hdf.goes (Goes.drew Gx.mem Gx.h _), hs⟩, hsz⟩

theorem wild_soundIn (hT : TblOk P T) (hfns : FnsOk P fns) {pre post : List AOp} {o : AOp} (hok : wildOk N pre o post = true) {id : Nat} {Q : Exit → Act → World → Prop} {k : St → Option R} {z : R} {st : St} {a : Act} {w : World} {l n : Nat} (hnd : noDefer (pre ++ o :: post) = true) (hlo : ¬ LetsOut Q)
    (hk : wildsK R T fns pre o post st k = some z) (C : Conc x0 w0 N st a w) (hQ : ∀ st' a' w', k st' = some z → Conc x0 w0 N st' a' w' → Q .normal a' w') : (Code.region id ((pre ++ o :: post).map (·.o)).toArray false).wpIn (inR l) n P Q a w := by
  unfold wildOk at hok
  simp only [Bool.and_eq_true] at hok
  obtain ⟨⟨h1, h2⟩, h3⟩ := hok
  have hN : ∀ ao ∈ pre ++ o :: post, dstOk N ao = true := List.all_eq_true.1 h1
  have hgd : ∀ ao ∈ pre ++ o :: post, guardOk (pre ++ o :: post) ao = true := List.all_eq_true.1 h2
  refine wpIn_region (opsIn (noDefer_ops hnd) hlo _ _ _ ?_)
  have hsz : ((pre ++ o :: post).map (·.o)).toArray.size = pre.length + (1 + post.length) := by simp; omega
  rw [hsz, List.range_eq_range', ← List.range'_append_1, Nat.zero_add, Nat.add_comm 1, List.range'_succ]
  have mid : (pre ++ o :: post)[pre.length]? = some o := by simp
  refine steps_part hT hfns _ hN hgd pre 0 (fun j ao hj => ?_) st a w hk C fun st1 a1 w1 hk1 C1 => ?_
  · rw [Nat.zero_add, List.getElem?_append_left (List.getElem?_eq_some_iff.1 hj).1]; exact hj
  · rw [wpOps_cons]
    refine lead_wild hT mid (hN o (by simp)) (Option.isNone_iff_eq_none.1 h3) hk1 C1 fun st2 a2 w2 hk2 C2 => ?_
    have := steps_part (x0 := x0) (w0 := w0) (Q := Q) (rest := []) hT hfns _ hN hgd post (pre.length + 1) (fun j ao hj => ?_) st2 a2 w2 hk2 C2 fun st3 a3 w3 hk3 C3 => hQ st3 a3 w3 hk3 C3
    · rw [List.append_nil] at this; exact this
    · rw [List.getElem?_append_right (by omega), show pre.length + 1 + j - pre.length = j + 1 by omega]; exact hj

theorem run_soundIn {l n : Nat} (hT : TblOk P T) (hfns : FnsOk P fns) (hm : P.follows .mixedOrders = true) {subs : Subs R} {z : R} : ∀ (c : ACode), c.ok N = true → c.same → c.plain = true → ∀ (st : St) (k : AExit → St → Option R) (a : Act) (w : World) (Q : Exit → Act → World → Prop), ¬ LetsOut Q →
    runK R T fns fuel (x0.σ.map AObj.arr0) subs c st k = some z → Conc x0 w0 N st a w → (∀ e st' a' w', k e st' = some z → Conc x0 w0 N st' a' w' → Q e.up a' w') → c.erase.wpIn (inR l) n P Q a w := by
  intro c
  induction c with
  | skip => intro _ _ _ st k a w Q _ h C hQ; exact wpIn_skip (hQ .normal _ _ _ h C)
  | region id ops draw =>
    intro hok hsm hp st k a w Q hlo h C hQ
    exact region_soundIn hT hfns hm hok hp hlo h C fun st' a' w' h' C' => hQ .normal _ _ _ h' C'
  | wild id pre o post =>
    intro hok hsm hp st k a w Q hlo h C hQ
    exact wild_soundIn hT hfns hok hp hlo h C fun st' a' w' h' C' => hQ .normal _ _ _ h' C'
  | seq c d ihc ihd =>
    intro hok hsm hp st k a w Q hlo h C hQ
    simp only [ACode.ok, Bool.and_eq_true] at hok
    simp only [ACode.plain, Bool.and_eq_true] at hp
    refine wpIn_seq (ihc hok.1 hsm.1 hp.1 st _ a w _ (fun ⟨a, w, h⟩ => hlo ⟨a, w, h⟩) h C fun e st' a' w' h' C' => ?_)
    cases e with
    | normal => exact ihd hok.2 hsm.2 hp.2 st' k a' w' Q hlo h' C' hQ
    | exit id => exact hQ (.exit id) _ _ _ h' C'
    | ret ks => exact hQ (.ret ks) _ _ _ h' C'
  | cond o c d ihc ihd =>
    intro hok hsm hp st k a w Q hlo h C hQ
    simp only [ACode.ok, Bool.and_eq_true] at hok
    simp only [ACode.plain, Bool.and_eq_true] at hp
    simp only [runK, condK] at h
    split at h
    · rename_i t
      split at h
      · rename_i p b hs
        obtain ⟨x, _, _, _, hsl⟩ := C.state
        obtain ⟨u, h3, h4⟩ := hsl t _ hs
        have hu := V_bool.1 h4
        subst hu
        have he : a.eval (.tmp t) = .bool b := by simp [Act.eval, Array.getD_eq_getD_getElem?, h3]
        cases b with
        | true => exact wpIn_cond_true he (ihc hok.1 hsm.1 hp.1 _ k a w Q hlo h (know_conc hs C) hQ)
        | false => exact wpIn_cond_false he (ihd hok.2 hsm.2 hp.2 _ k a w Q hlo h (know_conc hs C) hQ)
      · cases h
    · rename_i b
      cases b with
      | true => exact wpIn_cond_true (by simp [Act.eval]) (ihc hok.1 hsm.1 hp.1 _ k a w Q hlo h C hQ)
      | false => exact wpIn_cond_false (by simp [Act.eval]) (ihd hok.2 hsm.2 hp.2 _ k a w Q hlo h C hQ)
    · cases h
  | block id c ih =>
    intro hok hsm hp st k a w Q hlo h C hQ
    refine wpIn_block (ih hok hsm hp st _ a w _ (fun ⟨a, w, h⟩ => hlo ⟨a, w, h⟩) h C fun e st' a' w' h' C' => ?_)
    cases e with
    | normal => exact hQ .normal _ _ _ h' C'
    | exit id' =>
      show (if id' = id then Q .normal a' w' else Q (.exit id') a' w')
      simp only at h'
      cases hb : Nat.beq id' id with
      | true => rw [hb] at h'; rw [if_pos (Nat.eq_of_beq_eq_true hb)]; exact hQ .normal _ _ _ h' C'
      | false => rw [hb] at h'; rw [if_neg (fun e => by rw [e, Nat.beq_refl] at hb; cases hb)]; exact hQ (.exit id') _ _ _ h' C'
    | ret ks => exact hQ (.ret ks) _ _ _ h' C'
  | exit id => intro _ _ _ st k a w Q _ h C hQ; exact wpIn_exit (hQ (.exit id) _ _ _ h C)
  | ret ks => intro _ _ _ st k a w Q _ h C hQ; exact wpIn_ret (hQ (.ret ks) _ _ _ h C)
  | norm nm c ih =>
    intro hok hsm hp st k a w Q hlo h C hQ
    obtain ⟨st', h1, C1⟩ := norm_sound h C
    exact ih hok hsm hp st' k a w Q hlo h1 C1 hQ
  | fin nm c ih =>
    intro hok hsm hp st k a w Q hlo h C hQ
    refine ih hok hsm hp st _ a w Q hlo h C fun e st' a' w' h' C' => ?_
    cases e with
    | normal =>
      obtain ⟨st2, h2, C2⟩ := norm_sound h' C'
      exact hQ .normal _ _ _ h2 C2
    | exit id => exact hQ (.exit id) _ _ _ h' C'
    | ret ks => exact hQ (.ret ks) _ _ _ h' C'
  | co c d ih =>
    intro hok hsm hp st k a w Q hlo h C hQ
    obtain ⟨st', h1, C1⟩ := coe_sound h C
    exact ih hok hsm hp st' k a w Q hlo h1 C1 hQ
  | finco c d ih =>
    intro hok hsm hp st k a w Q hlo h C hQ
    refine ih hok hsm hp st _ a w Q hlo h C fun e st' a' w' h' C' => ?_
    cases e with
    | normal =>
      obtain ⟨st2, h2, C2⟩ := coe_sound h' C'
      exact hQ .normal _ _ _ h2 C2
    | exit id => exact hQ (.exit id) _ _ _ h' C'
    | ret ks => exact hQ (.ret ks) _ _ _ h' C'
  | either t c d ihc ihd =>
    intro hok hsm hp st k a w Q hlo h C hQ
    simp only [ACode.ok, Bool.and_eq_true] at hok
    simp only [ACode.plain, Bool.and_eq_true] at hp
    simp only [runK] at h
    cases ht : t st with
    | true => rw [ht] at h; exact ihc hok.1 hsm.1 hp.1 st k a w Q hlo h C hQ
    | false =>
      rw [ht] at h
      have := ihd hok.2 hsm.2.1 hp.2 st k a w Q hlo h C hQ
      rw [hsm.2.2] at this
      exact this
  | loop nm c ih => intro _ _ hp; cases hp
  | scope c ih => intro _ _ hp; cases hp
  | hole nm i c => intro _ _ hp; cases hp
end
end Go.Am

/- The abstract machine: of the blocks that no one writes only those count that hold cells. -/
namespace Go.Am
def cellAt (h : Heap) (b : Nat) : Prop := ∃ c e fr, h b = some (.cells c e fr)
theorem Holds.cellAt {h : Heap} {b o : Nat} {cs : List Value} (H : Holds h b o cs) : Am.cellAt h b := by
  obtain ⟨c, e, fr, h1, _⟩ := H; exact ⟨c, e, fr, h1⟩
theorem Ty.Rel.shrink {h : Heap} {S S' : Fz} (ha : S'.at_ = S.at_) (hs : ∀ b, S b → cellAt h b → S' b) : ∀ (t : Ty) (x : t.den) (cs : List Value), Ty.Rel h S t x cs → Ty.Rel h S' t x cs := by
  intro t
  induction t with
  | int k => exact fun _ _ h => h
  | bool => exact fun _ _ h => h
  | str => exact fun _ _ h => h
  | unit => exact fun _ _ h => h
  | one t ih => exact fun x cs h => ih x cs h
  | pair a b iha ihb => rintro x cs ⟨c1, c2, e, h1, h2⟩; exact ⟨c1, c2, e, iha _ _ h1, ihb _ _ h2⟩
  | arr n t ih => rintro xs cs ⟨hn, css, e, h1⟩; exact ⟨hn, css, e, h1.mono fun x y hxy => ih x y hxy⟩
  | slice t ih =>
    rintro xs cs ⟨base, len, cap, e, hl, hc, hnil, hb⟩
    refine ⟨base, len, cap, e, hl, hc, hnil, fun hp => ?_⟩
    obtain ⟨b, o, h1, h2, css, H, A⟩ := hb hp
    exact ⟨b, o, h1, hs _ h2 H.cellAt, css, H, A.mono fun x y hxy => ih x y hxy⟩
  | pref k =>
    intro p cs h
    cases p with
    | none => exact h
    | some j => obtain ⟨b, h1, h2⟩ := h; exact ⟨b, by rw [ha]; exact h1, h2⟩

/-- The same context, with less that no one writes. -/
abbrev Ctx.less (x : Ctx) (S : Bool → Nat → Prop) : Ctx := { x with S := S }
section
variable {x : Ctx} {S : Bool → Nat → Prop} (hs : ∀ p b, x.S p b → cellAt x.h b → S p b)
include hs
theorem AVal.C.shrink : ∀ (v : AVal) (cs : List Value), v.C x cs → v.C (x.less S) cs := by
  intro v
  induction v with
  | dat p t d => exact fun cs h => Ty.Rel.shrink (S := x.F p) (S' := (x.less S).F p) rfl (hs p) t d cs h
  | pair a b iha ihb => rintro cs ⟨c1, c2, e, h1, h2⟩; exact ⟨c1, c2, e, iha _ h1, ihb _ h2⟩
  | one a ih => exact fun cs h => ih cs h
  | ptr r g p => rintro cs ⟨c, e, h1, h⟩; exact ⟨c, e, h1, h⟩
  | nilp => exact fun _ h => h
  | ref p t d => rintro cs ⟨b, o, ds, e, h1, h2, h3⟩; exact ⟨b, o, ds, e, hs _ _ h1 h2.cellAt, h2, Ty.Rel.shrink (S := x.F p) (S' := (x.less S).F p) rfl (hs p) t d _ h3⟩
  | slc r g => rintro cs ⟨c, e, h1, h⟩; exact ⟨c, e, h1, h⟩
  | sub r g lo len ex => rintro cs ⟨c, e, h1, h⟩; exact ⟨c, e, h1, h⟩
  | nils => exact fun _ h => h
  | map r => rintro cs ⟨c, e, h1, h⟩; exact ⟨c, e, h1, h⟩
  | nilm => exact fun _ h => h
  | fn f caps ih => rintro cs ⟨vs, e, h⟩; exact ⟨vs, e, ih _ h⟩
  | nilf => exact fun _ h => h
  | iface t v ih =>
    rintro cs ⟨u, e, h⟩; refine ⟨u, e, ?_⟩
    by_cases hv : v.agg = true
    · rw [if_pos hv] at h ⊢; obtain ⟨c, e, h⟩ := h; exact ⟨c, e, ih _ h⟩
    · rw [if_neg hv] at h ⊢; exact ih _ h
  | nili => exact fun _ h => h
  | tup vs ih => rintro cs ⟨us, e, h⟩; exact ⟨us, e, ih _ h⟩
  | nil => exact fun _ h => h
  | cons a b iha ihb =>
    rintro cs ⟨u, us, e, h, h'⟩; refine ⟨u, us, e, ?_, ihb _ h'⟩
    by_cases hv : a.agg = true
    · rw [if_pos hv] at h ⊢; obtain ⟨c, e, h⟩ := h; exact ⟨c, e, iha _ h⟩
    · rw [if_neg hv] at h ⊢; exact iha _ h
  | junk => exact fun _ h => h
theorem AVal.V.shrink {v : AVal} {u : Value} (h : v.V x u) : v.V (x.less S) u := by
  unfold AVal.V at *
  by_cases hv : v.agg = true
  · rw [if_pos hv] at h ⊢; obtain ⟨c, e, h⟩ := h; exact ⟨c, e, AVal.C.shrink hs _ _ h⟩
  · rw [if_neg hv] at h ⊢; exact AVal.C.shrink hs _ _ h
theorem ObjRel.shrink {r : Nat} {o : AObj} (h : ObjRel x r o) : ObjRel (x.less S) r o := by
  cases o with
  | box v => obtain ⟨b, c, e, h1, h2, h3, h4⟩ := h; exact ⟨b, c, e, h1, h2, AVal.C.shrink hs _ _ h3, h4⟩
  | arr g t xs =>
    rcases h with ⟨h1, h2⟩ | ⟨b, o, c, e, css, h1, h2, h3, h4⟩
    · exact .inl ⟨h1, h2⟩
    · exact .inr ⟨b, o, c, e, css, h1, h2, h3.mono fun _ _ h => Ty.Rel.shrink (S := x.F true) (S' := (x.less S).F true) rfl (hs true) t _ _ h, h4⟩
  | map K V m bs clk =>
    obtain ⟨b, es, h1, h2, h3, h4⟩ := h
    exact ⟨b, es, h1, h2, h3.mono fun _ _ h => ⟨AVal.V.shrink hs h.1, AVal.V.shrink hs h.2⟩, h4⟩
  | iter v s l => obtain ⟨b, m, h1, h2, h3, h4⟩ := h; exact ⟨b, m, h1, h2, AVal.C.shrink hs _ _ h3, h4⟩
  | vmap K m => obtain ⟨b, es, clk, h1, h2, h3⟩ := h; exact ⟨b, es, clk, h1, h2, h3.mono fun _ _ h => ⟨AVal.V.shrink hs h.1, AVal.V.shrink hs h.2⟩⟩
  | pool t xs => exact h
  | dead => trivial
  | free => trivial
end
theorem less_keeps (x : Ctx) (S : Bool → Nat → Prop) (r : Nat) : Keeps x (x.less S) r := ⟨fun _ _ _ h => h, fun _ _ h => h, fun _ _ _ _ _ h => h, fun _ h => h⟩

/-- From B on, only cells count. -/
theorem Goes.shrink {x0 x : Ctx} {w0 w : World} {B : Nat} (G : Goes x0 w0 x w) (h0 : ∀ p b, x0.S p b → b < B) :
    Goes x0 w0 (x.less fun p b => x.S p b ∧ (b < B ∨ cellAt x.h b)) w ∧ ∀ (v : AVal) (u : Value), v.V x u → v.V (x.less fun p b => x.S p b ∧ (b < B ∨ cellAt x.h b)) u := by
  have hs : ∀ p b, x.S p b → cellAt x.h b → (x.S p b ∧ (b < B ∨ cellAt x.h b)) := fun p b h c => ⟨h, .inr c⟩
  refine ⟨⟨⟨fun r => ObjRel.shrink hs (G.mem.objs r), G.mem.apart, fun p b hb => G.mem.still p b hb.1, fun b hb => ⟨G.mem.sub b hb.1, hb.2⟩, G.mem.len⟩, G.h, ⟨fun p b hb => ⟨⟨(G.S p b hb).1, .inl (h0 p b hb)⟩, (G.S p b hb).2⟩, G.S.at_⟩, G.pl, G.at_, fun r => (G.keeps r).trans (less_keeps x _ r), G.os, G.tape, G.output, G.size, G.frame, G.own, fun p b hb => G.newS p b hb.1⟩, fun v u h => AVal.V.shrink hs h⟩
end Go.Am

/- The abstract machine: a range over a function whose elements are told ahead: what its rounds owe. -/
namespace Go.Am
open Go Go.RowKit

/-- An iterator that yields so many elements, one behind the other. -/
def Yields (P : Program) (g : Nat) (lb : Array Value) (items : List (Array Value)) (Kp : World → World → Prop) (w : World) : Prop :=
  ∀ (l : Nat) (J : Nat → World → Prop) (Jx : World → Prop) (W : World), Below w.heap.size w W → AbidesFrom W.heap.size J → AbidesFrom W.heap.size (fun (_ : Unit) W => Jx W) →
    (∀ k args W1, items[k]? = some args → J k W1 → YieldAt Fence.wide 0 P l args W1 fun e W' => (e = .returned (.bool true) ∧ J (k + 1) W' ∧ Kp W1 W') ∨ (e = .returned (.bool false) ∧ Jx W')) →
    J 0 W → CallsIn Fence.wide 0 P g (#[.func (.yield l) #[] #[]] ++ lb) W fun e W' => (∃ v, e = .returned v) ∧ (J items.length W' ∨ Jx W')

/-- How a round may end. -/
def eachPost (B : Nat) (Kp : World → World → Prop) (J : Nat → World → Prop) (Jx : Code → World → Prop) (k : Nat) (W : World) : Exit → Act → World → Prop
  | .normal, _, W' => KeepsFrom B W W' ∧ Kp W W' ∧ J (k + 1) W'
  | .ret, _, W' => KeepsFrom B W W' ∧ Jx .ret W'
  | .exit id, _, W' => KeepsFrom B W W' ∧ Jx (.exit id) W'
  | _, _, _ => False

theorem wp_each {P : Program} {w : World} {g : Operand} {ps : Array Tmp} {assign body : Code} {Q : Exit → Act → World → Prop} {a : Act} {gf : Nat} {lb : Array Value} (hg : a.eval g = .func (.func gf) #[] lb) (eg : ∀ args w, (callFunc gf args).run P w = .ok (.enter gf args) w)
    {items : List (Array Value)} (hps : ∀ args ∈ items, args.size = ps.size) {Kp : World → World → Prop} (hseq : Yields P gf lb items Kp w)
    (hKt : ∀ {A B C : World}, Kp A B → Kp B C → Kp A C) (hKb : ∀ (W : World) (l : Nat) (o o' : Obj), w.heap.size ≤ l → W.heap[l]? = some o → o.isCells = false → o.isWalk = false → Kp W (W.putObj l o'))
    (J : Nat → World → Prop) (Jx : Code → World → Prop) (hJ : OwnFrom w.heap.size J) (hJx : ∀ c, OwnFrom w.heap.size (fun (_ : Unit) W => Jx c W)) (h0 : J 0 w)
    (hround : ∀ (l k : Nat) (args : Array Value) (W : World), w.heap.size ≤ l → items[k]? = some args → J k W → (∃ o, W.heap[l]? = some o ∧ o.isCells = false) →
      assign.wpIn (inR l) 0 P (Exit.then (fun a1 W1 => KeepsFrom w.heap.size W W1 ∧ Kp W W1 ∧ ∀ o', body.wpIn (inR l) 0 P (eachPost w.heap.size Kp J Jx k (W1.putObj l o')) a1 (W1.putObj l o')) (fun _ _ _ => False))
        { tmps := (ps.zip args).foldl (fun t (p, v) => t.setIfInBounds p v) a.tmps, defers := [] } W)
    (hdone : ∀ (D : Nat) (W : World), w.heap.size ≤ D → J items.length W → W.heap[D]? = some (.deferred (some [])) → Q .normal { a with defers := { target := .collected D, args := #[] } :: a.defers } W)
    (hstop : ∀ (D : Nat) (c : Code) (W : World), w.heap.size ≤ D → Jx c W → W.heap[D]? = some (.deferred (some [])) → c.wpIn Fence.wide 0 P Q { a with defers := { target := .collected D, args := #[] } :: a.defers } W) :
    (Code.rangeFunc g ps assign body).wp P Q a w := by
  refine (wpIn_wide (n := 0)).1 (wpIn_rangeFunc ?_)
  intro fn _
  rw [show Fence.wide.round = none from rfl]
  obtain ⟨rec, hrec⟩ : ∃ rec : LoopState → Option Code → Loop, rec = fun st pe => { state := st, pending := pe, fn, tmps := a.tmps, params := ps, assign, body, defers := w.heap.size } := ⟨_, rfl⟩
  obtain ⟨W1, hW1⟩ : ∃ W1, (w.alloc (.deferred (some []))).alloc (.loop (rec .ready none)) = W1 := ⟨_, rfl⟩
  have hL1 : W1.heap[w.heap.size + 1]? = some (.loop (rec .ready none)) := by
    rw [← hW1]; have := World.alloc_heap_new (w.alloc (.deferred (some []))) (.loop (rec .ready none)); rwa [World.size_alloc] at this
  have hK1 : W1.heap[w.heap.size]? = some (.deferred (some [])) := by
    rw [← hW1]; exact (Below.heap_alloc _ _ _ (by simp)).trans (World.alloc_heap_new w _)
  have hJ1 : J 0 W1 := by rw [← hW1]; exact hJ.alloc _ (hJ.alloc _ h0)
  have hb1 : Below w.heap.size w W1 := by
    rw [← hW1]; exact ((Below.refl _ w).alloc (Nat.le_refl _) _).alloc (by simp) _
  refine ⟨w.heap.size + 1, [{ target := .collected w.heap.size, args := #[] }], W1, { target := .fn (.func gf) lb, args := #[.func (.yield (w.heap.size + 1)) #[] #[]] }, W1, gf,
    #[.func (.yield (w.heap.size + 1)) #[] #[]] ++ lb, W1, ?_, ?_, (fun _ _ => trivial), ?_, (fun h => by cases h), ?_⟩
  · rw [← hW1, hrec]; exact run_enterLoop_outer _ _ _ _ _
  · simp only [resolve, hg]
    simp [go_sem]
  · simp [invoke, go_sem, eg]
  have hnw : ∀ {A B : World} {row : Option Nat}, (∀ r, row = some r → W1.heap.size ≤ r ∧ ∃ o : Obj, A.heap[r]? = some o ∧ o.isWalk = true) → (∀ r, row = some r → w.heap.size ≤ r ∧ ∃ o : Obj, A.heap[r]? = some o ∧ o.isCells = false) :=
    fun hr r e => by obtain ⟨hB, o, ho, hw⟩ := hr r e; exact ⟨by rw [← hW1] at hB; simp at hB; omega, o, ho, Obj.not_cells_of_walk hw⟩
  refine (hseq (w.heap.size + 1)
    (fun k W => J k W ∧ W.heap[w.heap.size + 1]? = some (.loop (rec .ready none)) ∧ W.heap[w.heap.size]? = some (.deferred (some [])))
    (fun W => ∃ c, Jx c W ∧ W.heap[w.heap.size + 1]? = some (.loop (rec .done (some c))) ∧ W.heap[w.heap.size]? = some (.deferred (some [])))
    W1 hb1 
    (fun s A B row hs hg' hr => ⟨hJ s A B row hs.1 hg' (hnw (B := B) hr), (grownBy_keeps hg' (fun r e => (hr r e).2) hs.2.1 rfl).trans hs.2.1, (grownBy_keeps hg' (fun r e => (hr r e).2) hs.2.2 rfl).trans hs.2.2⟩)
    (fun s A B row hs hg' hr => by
      obtain ⟨c, hc, hl, hk⟩ := hs
      exact ⟨c, hJx c s A B row hc hg' (hnw (B := B) hr), (grownBy_keeps hg' (fun r e => (hr r e).2) hl rfl).trans hl, (grownBy_keeps hg' (fun r e => (hr r e).2) hk rfl).trans hk⟩)
    ?_ ⟨hJ1, hL1, hK1⟩).mono ?_
  · rintro k args W hk0 ⟨hi, hl, hk⟩
    have hy := run_yield (P := P) (args := args) hl (by rw [hrec]; exact hps args (List.mem_of_getElem? hk0))
    rw [hrec] at hy
    refine ⟨fn, _, assign, body, hy, roundIn_of_wpIn trivial (wpIn_mono (hround _ k args W (by omega) hk0 hi ⟨_, hl, rfl⟩) ?_)⟩
    clear hy
    rintro e a1 Wa hp
    cases e with
    | normal =>
      obtain ⟨hkf, hkp, hbody⟩ := hp
      have hl' := hkf.same _ _ (by omega) hl rfl
      have hk' := hkf.same _ _ (Nat.le_refl _) hk rfl
      have hlt : w.heap.size + 1 < Wa.heap.size := (Array.getElem?_eq_some_iff.1 hl').1
      refine ⟨_, run_beginRound hl' (by rw [hrec]), ?_⟩
      have hl2 : (Wa.putObj (w.heap.size + 1) (.loop { rec .ready none with state := .busy })).heap[w.heap.size + 1]? = some (.loop { rec .ready none with state := .busy }) := World.putObj_heap_same hlt
      have hk2 : (Wa.putObj (w.heap.size + 1) (.loop { rec .ready none with state := .busy })).heap[w.heap.size]? = some (.deferred (some [])) := (World.putObj_heap_other (by omega)).trans hk'
      have hw2 : Kp Wa (Wa.putObj (w.heap.size + 1) (.loop { rec .ready none with state := .busy })) := hKb _ _ _ _ (by omega) hl' rfl rfl
      refine wpIn_mono (hbody _) ?_
      have fin : ∀ (jump : Option Code) (W3 : World), KeepsFrom w.heap.size (Wa.putObj (w.heap.size + 1) (.loop { rec .ready none with state := .busy })) W3 →
          (Instr.endRound (w.heap.size + 1) jump).run P W3 = .ok (.bool jump.isNone) (W3.putObj (w.heap.size + 1) (.loop (rec (if jump.isNone then .ready else .done) jump))) ∧
          W3.heap[w.heap.size + 1]? = some (.loop { rec .ready none with state := .busy }) ∧
          (W3.putObj (w.heap.size + 1) (.loop (rec (if jump.isNone then .ready else .done) jump))).heap[w.heap.size + 1]? = some (.loop (rec (if jump.isNone then .ready else .done) jump)) ∧
          (W3.putObj (w.heap.size + 1) (.loop (rec (if jump.isNone then .ready else .done) jump))).heap[w.heap.size]? = some (.deferred (some [])) := fun jump W3 hk3 => by
        have hl3 := hk3.same _ _ (by omega) hl2 rfl
        have := run_endRound (P := P) jump hl3
        rw [hrec] at this ⊢
        exact ⟨this, by rw [hrec] at hl3; exact hl3, World.putObj_heap_same (Array.getElem?_eq_some_iff.1 hl3).1, (World.putObj_heap_other (by omega)).trans (hk3.same _ _ (Nat.le_refl _) hk2 rfl)⟩
      rintro e a3 W3 hp
      cases e with
      | normal =>
        obtain ⟨hk3, hkp3, hi3⟩ := hp
        obtain ⟨hr, hl3, hl4, hk4⟩ := fin none W3 hk3
        exact ⟨_, _, hr, .inl ⟨rfl, ⟨hJ.putObj _ hi3 (by omega) hl3 rfl, hl4, hk4⟩, hKt hkp (hKt (hKt hw2 hkp3) (hKb _ _ _ _ (by omega) hl3 rfl rfl))⟩⟩
      | ret =>
        obtain ⟨hk3, hi3⟩ := hp
        obtain ⟨hr, hl3, hl4, hk4⟩ := fin (some .ret) W3 hk3
        exact ⟨_, _, hr, .inr ⟨rfl, .ret, (hJx _).putObj (s := ()) _ hi3 (by omega) hl3 rfl, hl4, hk4⟩⟩
      | exit id =>
        obtain ⟨hk3, hi3⟩ := hp
        obtain ⟨hr, hl3, hl4, hk4⟩ := fin (some (.exit id)) W3 hk3
        exact ⟨_, _, hr, .inr ⟨rfl, .exit id, (hJx _).putObj (s := ()) _ hi3 (by omega) hl3 rfl, hl4, hk4⟩⟩
      | goto t => exact hp.elim
      | panic ch => exact hp.elim
      | outgrown => exact hp.elim
    | ret => exact hp
    | exit id => exact hp
    | goto t => exact hp
    | panic ch => exact hp
    | outgrown => exact hp
  · rintro e W2 ⟨⟨v, rfl⟩, (⟨hi, hl, hk⟩ | ⟨c, hi, hl, hk⟩)⟩
    · exact ⟨none, _, by have := run_endLoop (P := P) hl (by rw [hrec]; simp); rw [hrec] at this; exact this, hdone _ _ (Nat.le_refl _) (hJ.putObj _ hi (by omega) hl rfl) ((World.putObj_heap_other (by omega)).trans hk)⟩
    · exact ⟨some c, _, by have := run_endLoop (P := P) hl (by rw [hrec]; simp); rw [hrec] at this; exact this, hstop _ c _ (Nat.le_refl _) ((hJx c).putObj (s := ()) _ hi (by omega) hl rfl) ((World.putObj_heap_other (by omega)).trans hk)⟩
end Go.Am

/- The abstract machine: the rounds of a range over a function, as the machine runs them. -/
namespace Go.Am
open Go Go.RowKit

/-- No object is a map or a walk over one. -/
def cellsOnly (σ : List AObj) : Bool := σ.all fun o => match o with | .map .. | .iter .. | .vmap .. => false | _ => true
theorem cellsOnly_obj {x : Ctx} (h : cellsOnly x.σ = true) (r : Nat) : (match x.obj r with | .map .. | .iter .. | .vmap .. => false | _ => true) = true := by
  by_cases h64 : r < 64
  · unfold Ctx.obj
    rw [objAt_low h64, List.getD_eq_getElem?_getD]
    cases hr : x.σ[r]? with
    | none => rfl
    | some o => exact List.all_eq_true.1 h o (List.mem_of_getElem? hr)
  · rw [obj_virt x (by omega)]
    rcases elem_box (x.obj (r % 64)) (r / 64 - 1) with e | ⟨t, d, e⟩ <;> rw [e]
theorem owned_cells {x : Ctx} (M : Mem x) (h : cellsOnly x.σ = true) {b : Nat} (ho : Owned x b) : cellAt x.h b := by
  obtain ⟨r, a, l, m, rfl⟩ := ho
  have hr := M.objs r
  have hc := cellsOnly_obj h r
  cases ho : x.obj r with
  | box v => rw [ho] at hr; obtain ⟨b, c, e, h1, h2, _⟩ := hr; rw [m] at h1; cases h1; exact ⟨c, e, _, h2⟩
  | arr g t xs =>
    rw [ho] at hr
    rcases hr with ⟨h1, _⟩ | ⟨b, o, c, e, css, h1, h2, _⟩
    · rw [m] at h1; cases h1
    · rw [m] at h1; cases h1; exact ⟨c, e, _, h2⟩
  | pool t xs => rw [ho] at hr; rw [hr.2.2.1] at m; cases m
  | dead => rw [ho] at l; cases l
  | free => rw [ho] at l; cases l
  | _ => rw [ho] at hc; cases hc

/-- What a round does to blocks that are no cells: nothing. -/
theorem Goes.keepsOthers {x x' : Ctx} {w w' : World} (G : Goes x w x' w') (M : Mem x) (hh : x.h = fun b => w.heap[b]?) (hc : cellsOnly x.σ = true) : KeepsOthers w w' := by
  refine ⟨G.size, fun k o hk ho => ?_⟩
  refine (G.frame k (isSome_heap.1 (by rw [hk]; rfl)) fun hown => ?_).trans hk
  obtain ⟨c, e, fr, hx⟩ := owned_cells M hc hown
  rw [hh] at hx
  have hx : w.heap[k]? = _ := hx
  rw [hk] at hx; cases hx; cases ho

theorem not_cellAt {h : Heap} {w : World} {b : Nat} {o : Obj} (hh : h = fun b => w.heap[b]?) (hb : w.heap[b]? = some o) (ho : o.isCells = false) : ¬ cellAt h b := by
  rintro ⟨c, e, fr, hx⟩
  rw [hh] at hx
  have hx : w.heap[b]? = _ := hx
  rw [hb] at hx; cases hx; cases ho

/-- What the rounds keep: a state; L: which values are which; Fz: the blocks that the iterator reads. -/
def Inv (x0 : Ctx) (w0 : World) (B : Nat) (ds : List Deferred) (Fz : Nat → Prop) (L : AVal → Value → Prop) (σ : List AObj) (W : World) : Prop :=
  cellsOnly σ = true ∧ ∃ x, x.σ = σ ∧ Goes x0 w0 x W ∧ Marked x w0 W ds ∧ (∀ p b, x.S p b → b < B ∨ cellAt x.h b) ∧ (∀ b, Fz b → x.S false b) ∧ ∀ v u, L v u → v.V x u

section
variable {x0 : Ctx} {w0 W : World} {B N : Nat} {ds : List Deferred} {Fz : Nat → Prop} {L : AVal → Value → Prop} {σ : List AObj}

theorem Inv.own (hB : w0.heap.size ≤ B) (hds : ∀ d ∈ ds, ∀ D, d.target = .collected D → D < B) {W' : World} {row : Option Nat} (I : Inv x0 w0 B ds Fz L σ W) (hg : W.grownBy W' row) (hrow : ∀ r, row = some r → B ≤ r ∧ ∃ o : Obj, W.heap[r]? = some o ∧ o.isCells = false) : Inv x0 w0 B ds Fz L σ W' := by
  obtain ⟨hc, x, hσ, G, M, hS, hF, hs⟩ := I
  have hr : ∀ r, row = some r → B ≤ r ∧ ¬ cellAt x.h r := fun r e => by
    obtain ⟨h1, o, h2, h3⟩ := hrow r e
    exact ⟨h1, not_cellAt G.h h2 h3⟩
  obtain ⟨G', hV⟩ := Goes.foreign G hg (row := row) fun r e => by
    obtain ⟨h1, h2⟩ := hr r e
    refine ⟨Nat.le_trans hB h1, fun p hp => ?_, fun ho => h2 (owned_cells G.mem (by rw [hσ]; exact hc) ho)⟩
    rcases hS p r hp with h | h
    · omega
    · exact h2 h
  refine ⟨hc, x.over W', hσ, G', ⟨fun d hd => ?_, M.apart⟩, fun p b hb => ?_, hF, fun v u hv => hV v u (hs v u hv)⟩
  · obtain ⟨D, h1, h2, h3, h4, h5, h6⟩ := M.each d hd
    have hlt : D < B := hds d hd D (by rw [h1])
    exact ⟨D, h1, h2, Nat.lt_of_lt_of_le h3 hg.size, (hg.block D h3 fun e => by have := (hr D e.symm).1; omega).trans h4, h5, h6⟩
  · rcases hS p b hb with h | h
    · exact .inl h
    · refine .inr ?_
      obtain ⟨c, e, fr, hx⟩ := h
      refine ⟨c, e, fr, ?_⟩
      have hlt : b < W.heap.size := by rw [G.h] at hx; exact isSome_heap.1 (by rw [show W.heap[b]? = _ from hx]; rfl)
      show W'.heap[b]? = _
      rw [hg.block b hlt fun e' => (hr b e'.symm).2 ⟨c, e, fr, hx⟩]
      rw [G.h] at hx; exact hx

theorem Inv.mono (I : Inv x0 w0 B ds Fz L σ W) {L' : AVal → Value → Prop} (h : ∀ v u, L' v u → L v u) : Inv x0 w0 B ds Fz L' σ W := by
  obtain ⟨hc, x, hσ, G, M, hS, hF, hs⟩ := I
  exact ⟨hc, x, hσ, G, M, hS, hF, fun v u hv => hs v u (h v u hv)⟩

/-- A round begins from a context of its own. -/
theorem Inv.round (I : Inv x0 w0 B ds Fz L σ W) (h0 : ∀ p b, x0.S p b → b < B) (hFB : ∀ b, Fz b → b < B) :
    ∃ x, x.σ = σ ∧ Mem x ∧ (x.h = fun b => W.heap[b]?) ∧ (∀ v u, L v u → v.V x u) ∧
      ∀ (x' : Ctx) (W' : World) (σ' : List AObj) (L' : AVal → Value → Prop), Goes x W x' W' → x'.σ = σ' → cellsOnly σ' = true → (∀ v u, L' v u → v.V x' u) →
        KeepsOthers W W' ∧ (∀ b, Fz b → W'.heap[b]? = W.heap[b]?) ∧ Inv x0 w0 B ds Fz (fun v u => L v u ∨ L' v u) σ' W' := by
  obtain ⟨hc, x, hσ, G, M, hS, hF, hs⟩ := I
  refine ⟨x, hσ, G.mem, G.h, hs, fun x' W' σ' L' G' hσ' hc' hL' => ⟨G'.keepsOthers G.mem G.h (by rw [hσ]; exact hc), fun b hb => ?_, hc', ?_⟩⟩
  · have h := (G'.S false b (hF b hb)).2
    rw [G'.h, G.h] at h; exact h
  have G2 := G.trans G'
  obtain ⟨G3, hV⟩ := Goes.shrink (B := B) G2 h0
  refine ⟨x'.less fun p b => x'.S p b ∧ (b < B ∨ cellAt x'.h b), hσ', G3, ⟨fun d hd => ?_, M.apart⟩, fun p b hb => hb.2, fun b hb => ⟨(G'.S false b (hF b hb)).1, .inl (hFB b hb)⟩, fun v u hv => ?_⟩
  · obtain ⟨D, h1, h2, h3, h4, h5, h6⟩ := (M.goes G').each d hd
    exact ⟨D, h1, h2, h3, h4, h5, fun p hp => h6 p hp.1⟩
  · rcases hv with hv | hv
    · exact hV v u ((hs v u hv).mono G'.S G'.keeps)
    · exact hV v u (hL' v u hv)

/-- Where the loop is done: one mark more. -/
theorem Inv.done {D : Nat} {a : Act} {st : St} (I : Inv x0 w0 B a.defers Fz L st.σ W) (hL : ∀ i v, st.slots i = some v → ∃ u, a.tmps[i]? = some u ∧ L v u) (hds : ∀ d ∈ a.defers, ∀ D, d.target = .collected D → D < B) (hN : a.tmps.size = N) (hB : w0.heap.size ≤ B) (hD : B ≤ D) (hm : W.heap[D]? = some (.deferred (some []))) :
    Conc x0 w0 N st { a with defers := { target := .collected D, args := #[] } :: a.defers } W := by
  obtain ⟨hc, x, hσ, G, M, hS, hF, hs⟩ := I
  have hn : ¬ cellAt x.h D := not_cellAt G.h hm rfl
  refine ⟨⟨x, hσ, G, ⟨fun d hd => ?_, ?_⟩, fun i v hv => ?_⟩, hN⟩
  · rcases List.mem_cons.1 hd with rfl | hd
    · refine ⟨D, rfl, Nat.le_trans hB hD, isSome_heap.1 (by rw [hm]; rfl), hm, fun ho => hn (owned_cells G.mem (by rw [hσ]; exact hc) ho), fun p hp => ?_⟩
      rcases hS p D hp with h | h
      · omega
      · exact hn h
    · exact M.each d hd
  · refine List.pairwise_cons.2 ⟨fun d hd e => ?_, M.apart⟩
    have := hds d hd D e.symm
    omega
  · obtain ⟨u, h1, h2⟩ := hL i v hv
    exact ⟨u, h1, hs v u h2⟩

/-- Which values lie in which slots. -/
def onSlots (s : Nat → Option AVal) (tm : Array Value) : AVal → Value → Prop := fun v u => ∃ i, s i = some v ∧ tm[i]? = some u
def coversSl (s : Nat → Option AVal) (n : Nat) : Prop := ∀ i v, s i = some v → i < n

/-- Between two rounds the state is told anew. -/
theorem Inv.norm {R : Type} {nm : Norm} {st : St} {tm : Array Value} {Lit : AVal → Value → Prop} (hLit : ∀ v u, Lit v u → ∃ p t d, v = .dat p t d) {k : St → Option R} {z : R} (h : normK (x0.σ.map AObj.arr0) nm st (fun st => bif cellsOnly st.σ then k st else none) = some z)
    (I : Inv x0 w0 B ds Fz (fun v u => onSlots st.slots tm v u ∨ Lit v u) st.σ W) (hcv : coversSl st.slots tm.size) : ∃ st', k st' = some z ∧ coversSl st'.slots tm.size ∧ Inv x0 w0 B ds Fz (fun v u => onSlots st'.slots tm v u ∨ Lit v u) st'.σ W := by
  obtain ⟨vs, os, h1, _, h2, h3, h4⟩ := tellK_inv (show tellK (x0.σ.map AObj.arr0) nm st (fun l os => bif cellsOnly os then k ⟨slotsAt nm.live l, os⟩ else none) = some z from h)
  obtain ⟨hc', h1⟩ := cond_some h1
  obtain ⟨hc, x, hσ, G, M, hS, hF, hs⟩ := I
  refine ⟨_, h1, fun i v' hv => ?_, hc', x.ren nm.ks, ?_, ren_goes G (by rw [hσ]; exact h2), M.ren (renOk_of (g0 := x0.σ.map AObj.arr0) (by rw [hσ]; exact h2)), hS, hF, fun v' u hv => ?_⟩
  · obtain ⟨v, h5, _⟩ := h4 i v' hv; exact hcv i v h5
  · show renObjs nm.ks x.σ = os
    rw [h3, hσ]
  · rcases hv with ⟨i, hv, hu⟩ | hv
    · obtain ⟨v, h5, rfl⟩ := h4 i v' hv
      rw [← hσ]
      exact told_V ren_S (ren_names (renOk_of (g0 := x0.σ.map AObj.arr0) (by rw [hσ]; exact h2))) (hs v u (.inl ⟨i, h5, hu⟩))
    · obtain ⟨p, t, d, rfl⟩ := hLit v' u hv
      exact DatV.congr ren_S (hs _ u (.inr hv))
end

/-- A live object is let go: no one writes its block any more. -/
theorem goes_still {x : Ctx} {w : World} (M : Mem x) (hh : x.h = fun b => w.heap[b]?) {r : Nat} {o : AObj} (h0 : x.σ[r]? = some o) (hl : o.live = true) (hnp : o.isPool = false) :
    Goes x w { x with S := fun p b => x.S p b ∨ ∃ a, x.μ r = some a ∧ a.block = b, σ := x.σ.set r .dead } w := by
  have hobj := obj_of_get M h0
  let x1 : Ctx := { x with S := fun p b => x.S p b ∨ ∃ a, x.μ r = some a ∧ a.block = b, σ := x.σ.set r .dead }
  have hob : ∀ r', x1.obj r' = if r' = r then .dead else x.obj r' := fun r' => obj_set (M.low h0) h0 hnp rfl
  have hS : HS x x1 := ⟨fun p b h => ⟨.inl h, rfl⟩, fun _ _ _ h => h⟩
  have hk : ∀ r', Keeps x x1 r' := fun r' => by
    by_cases e : r' = r
    · subst e; exact .toDead (by rw [hob, if_pos rfl])
    · exact .same (by rw [hob, if_neg e]) rfl fun a n _ _ h => h
  have hlive : ∀ r', (x1.obj r').live = true → r' ≠ r ∧ (x.obj r').live = true := fun r' h => by
    rw [hob] at h
    by_cases e : r' = r
    · rw [if_pos e] at h; cases h
    · rw [if_neg e] at h; exact ⟨e, h⟩
  have hmem : Mem x1 := {
    objs := fun r' => by
      rw [hob]
      by_cases e : r' = r
      · rw [if_pos e]; trivial
      · rw [if_neg e]; exact ObjRel.congr hS hk rfl (fun _ _ _ => rfl) (fun _ => ⟨fun _ => rfl, rfl, rfl⟩) (M.objs r')
    apart := fun r1 r2 a1 a2 hne l1 l2 m1 m2 => M.apart r1 r2 a1 a2 hne (hlive _ l1).2 (hlive _ l2).2 m1 m2
    still := fun p b hb => by
      rcases hb with hb | ⟨a, ha, rfl⟩
      · exact ⟨(M.still p b hb).1, fun r' a l m => (M.still p b hb).2 r' a (hlive _ l).2 m⟩
      · exact ⟨M.there (by rw [hobj]; exact hl) ha, fun r' a' l m => M.apart r' r a' a (hlive _ l).1 (hlive _ l).2 (by rw [hobj]; exact hl) m ha⟩
    sub := fun b hb => hb.elim (fun h => .inl (M.sub b h)) .inr
    len := by show (x.σ.set r .dead).length ≤ 64; rw [List.length_set]; exact M.len }
  exact {
    mem := hmem
    h := hh
    S := hS
    pl := rfl
    at_ := fun _ _ => rfl
    keeps := hk
    os := rfl
    tape := rfl
    output := rfl
    size := Nat.le_refl _
    frame := fun b hb _ => rfl
    own := fun b ⟨r', a, l, m, e⟩ => .inl ⟨r', a, (hlive _ l).2, m, e⟩
    newS := fun p b hb => by
      rcases hb with hb | ⟨a, ha, e⟩
      · exact .inl hb
      · exact .inr (.inl ⟨r, a, by rw [hobj]; exact hl, ha, e⟩) }
end Go.Am

/- The abstract machine: a range over a function, as a part that the machine runs. -/
namespace Go.Am
open Go Go.RowKit

def putAll (s : Nat → Option AVal) : List Nat → List AVal → Nat → Option AVal
  | p :: ps, v :: vs => putAll (put s (some p) (some v)) ps vs
  | _, _ => s

/-- No step hangs on another one's answer. -/
def noGuards (ops : List AOp) : Bool := ops.all fun ao => ao.guard.isNone && ao.o.guard.isNone

section
variable (R : Type) (T : Tbl) (fns : Fns) (fuel : Nat) (g0 : List Bool) (ps : List Nat) (ops : List AOp) (body : ACode) (nm : Norm)

noncomputable def eachStep (vals : List AVal) (st : St) (F : St → Option R) (k : AExit → St → Option R) : Option R :=
  stepsK R T fns ops ⟨putAll st.slots ps vals, st.σ⟩ fun st1 => bif cellsOnly st1.σ then
    runK R T fns fuel (st1.σ.map AObj.arr0) (fun _ => none) body st1 fun e st2 => bif cellsOnly st2.σ then (match e with
      | .normal => normK g0 nm ⟨st.slots, st2.σ⟩ fun st3 => bif cellsOnly st3.σ then F st3 else none
      | .exit id => k (.exit id) ⟨st.slots, st2.σ⟩
      | .ret ks => k (.ret ks) ⟨st.slots, st2.σ⟩) else none
    else none

noncomputable def eachK (k : AExit → St → Option R) : List (List AVal) → St → Option R
  | [], st => k .normal st
  | z :: l, st => eachStep R T fns fuel g0 ps ops body nm z st (eachK k l) k
end

section
variable {P : Program} {T : Tbl} {fns : Fns} {R : Type} {x0 : Ctx} {w0 : World} {N fuel : Nat}

/-- Steps one behind the other, in a round: nothing is deferred. -/
theorem steps_round (hT : TblOk P T) (hfns : FnsOk P fns) (ops : List AOp) (hN : ∀ ao ∈ ops, dstOk N ao = true) (hgd : noGuards ops = true) (hnd : noDefer ops = true) {Q : Exit → Act → World → Prop} {k : St → Option R} {z : R} {l0 : Nat} :
    ∀ (l : List AOp) (i : Nat), ops.drop i = l → ∀ (st : St) (a : Act) (w : World), a.defers = [] → stepsK R T fns l st k = some z → Conc x0 w0 N st a w → (∀ st' a' w', k st' = some z → a'.defers = [] → Conc x0 w0 N st' a' w' → Q .normal a' w') →
      wpOpsIn (inR l0) 0 P (ops.map (·.o)).toArray Q (List.range' i l.length) a w := by
  intro l
  induction l with
  | nil => intro i _ st a w hd0 h C hQ; exact hQ st a w h hd0 C
  | cons ao l ih =>
    intro i hd st a w hd0 h C hQ
    have hi : ops[i]? = some ao := by
      have := congrArg (·[0]?) hd
      simpa using this
    have hm := List.mem_of_getElem? hi
    obtain ⟨st', h1, h2, hc⟩ := stepK_inv hfns (show stepK R T fns ao st _ = some z from h)
    have hg := List.all_eq_true.1 hgd ao hm
    rw [Bool.and_eq_true] at hg
    have hg1 := Option.isNone_iff_eq_none.1 hg.1
    have hg2 := Option.isNone_iff_eq_none.1 hg.2
    have hgv : gv ao st = some true := by unfold gv; rw [hg1]
    rcases hc with ⟨hf, _⟩ | ⟨_, v, ups, hcomes, hups, rfl⟩
    · rw [hgv] at hf; cases hf
    rw [List.length_cons, List.range'_succ]
    have hop : (ops.map (·.o)).toArray[i]? = some ao.o := by simp [hi]
    unfold wpOpsIn
    rw [hop]
    have hw : Region.wanted ao.o (yielded (ops.map (·.o)).toArray a.tmps) = true := by unfold Region.wanted; rw [hg2]
    simp only [hw, if_true]
    obtain ⟨⟨x, hσ, G, hdf, hs⟩, hsz⟩ := C
    have hM : Meets P T (opval ao.reads st.slots) (st.get ao.an.touch) a w x := {
      tbl := hT
      mem := G.mem
      h := G.h
      val := fun o v ho => by
        cases o with
        | tmp t =>
          simp only [opval] at ho
          obtain ⟨_, ho⟩ := cond_some ho
          obtain ⟨u, h1, h2⟩ := hs t v ho
          have : a.eval (.tmp t) = u := by simp [Act.eval, Array.getD_eq_getD_getElem?, h1]
          rw [this]; exact h2
        | const c => exact constVal_V ho
        | func f => cases ho; exact ⟨[], rfl, rfl⟩
        | global g => cases ho
      obj := fun r ob ho => by
        unfold St.get at ho
        rw [hσ]; exact (cond_some ho).2 }
    obtain ⟨u, ups', hz, hact⟩ := actK_ok hfns hM ao.o ao.an (k := fun v u => some (v, u)) (z := (v, ups)) (hcomes _ _)
    cases hz
    refine wpIn_of_op (noDefer_ops hnd ao.o (by simp only [List.mem_toArray, List.mem_map]; exact ⟨ao, hm, rfl⟩)) (fun _ _ h => h) ?_
    refine hact _ Q fun u w' x' G' hσ' hv => ?_
    refine ih (i + 1) ?_ _ _ _ (by rw [put_tmps.2]; exact hd0) h1 (conc_upd (hN ao hm) hσ G hs hsz hdf G' hσ' hv) hQ
    rw [← List.drop_drop, hd]; rfl

/-- The parameters of a round. -/
theorem fold_slots {x : Ctx} : ∀ (ps : List Nat) (vs : List AVal) (us : List Value) (s : Nat → Option AVal) (tm : Array Value), All2 (fun v u => v.V x u) vs us → (∀ p ∈ ps, p < tm.size) →
    (∀ i v, s i = some v → ∃ u, tm[i]? = some u ∧ v.V x u) →
    (((ps.zip us).foldl (fun t (q : Nat × Value) => t.setIfInBounds q.1 q.2) tm).size = tm.size) ∧ ∀ i v, putAll s ps vs i = some v → ∃ u, ((ps.zip us).foldl (fun t (q : Nat × Value) => t.setIfInBounds q.1 q.2) tm)[i]? = some u ∧ v.V x u := by
  intro ps
  induction ps with
  | nil => intro vs us s tm hA _ hs; exact ⟨rfl, fun i v h => by cases vs <;> exact hs i v h⟩
  | cons p ps ih =>
    intro vs us s tm hA hp hs
    cases vs with
    | nil => rw [hA.nil_inv]; exact ⟨rfl, hs⟩
    | cons v vs =>
      obtain ⟨u, us', rfl, h1, h2⟩ := hA.cons_inv
      have hlt := hp p (by simp)
      obtain ⟨e1, e2⟩ := ih vs us' (put s (some p) (some v)) (tm.setIfInBounds p u) h2 (fun q hq => by simpa using hp q (by simp [hq])) fun i w hw => by
        by_cases e : p = i
        · subst e
          simp only [put, Nat.beq_refl, cond_true, Option.some.injEq] at hw
          subst hw
          exact ⟨u, by simp [Array.setIfInBounds, hlt], h1⟩
        · rw [put_other (by simpa using e)] at hw
          obtain ⟨u', k1, k2⟩ := hs i w hw
          exact ⟨u', by rw [Array.getElem?_setIfInBounds_ne e]; exact k1, k2⟩
      exact ⟨by simpa using e1, e2⟩

theorem zip_fold (ps : List Nat) (args : Array Value) (tm : Array Value) : (ps.toArray.zip args).foldl (fun t (p, v) => t.setIfInBounds p v) tm = (ps.zip args.toList).foldl (fun t (q : Nat × Value) => t.setIfInBounds q.1 q.2) tm := by
  rw [← Array.foldl_toList, Array.toList_zip]

/-- A row's elements, the last one first. -/
def backL {α : Type} (xs : List α) : List (Int × α) := (xs.zipIdx.map fun p => ((p.2 : Int), p.1)).reverse

/-- A closure that walks back over a slice that it has caught. -/
def WalksBack (P : Program) (f : FuncId) (t : Ty) : Prop :=
  ∀ (w : World) (Bs : Nat) (S : Fz) (e : TypeId) (fr : Nat × Nat) (sv : Value) (xs : List t.den), w.heap[Bs]? = some (.cells #[sv] e fr) → Ty.Rel (fun b => w.heap[b]?) S (.slice t) xs [sv] → (∀ b, S b → b < w.heap.size) → xs.length ≤ 140737488355328 →
    ∃ items : List (Array Value), All2 (fun (z : Int × t.den) args => ∃ u, args = #[Value.int .i64 z.1, u] ∧ ∀ (q : Bool) (x : Ctx), x.h = (fun b => w.heap[b]?) → (∀ b, S b → x.S q b) → (∀ k j b, S.at_ k j = some b → x.at_ k j = some b) → (AVal.dat q t z.2).V x u) (backL xs) items ∧
      Yields P f #[.pointer (some ⟨Bs, 0, none⟩)] items (fun A B => ∀ b, (b = Bs ∨ S b) → B.heap[b]? = A.heap[b]?) w

/-- The run of a range over such a closure. -/
noncomputable def eachRun (R : Type) (T : Tbl) (fns : Fns) (fuel : Nat) (g0 : List Bool) (live : List Nat) (gs f p1 p2 : Nat) (ops : List AOp) (body : ACode) (nm0 nm1 : Norm) (t : Ty) (vs : List AVal) (os : List AObj) (k : AExit → St → Option R) : Option R :=
  match slotsAt live vs gs with
  | some (.fn f' (.cons (.ptr r g []) .nil)) => match os[r]? with
    | some (.box (.dat q (.slice τ) xs)) => bif Nat.beq f' f && Nat.beq g 0 && cellsOnly os then
        (if h : τ = t then (if xs.length ≤ 140737488355328 then normK g0 nm0 ⟨slotsAt live vs, os.set r .dead⟩ fun st => bif cellsOnly st.σ then
            eachK R T fns fuel g0 [p1, p2] ops body nm1 k ((backL (h ▸ xs : List t.den)).map fun z => [.dat true (.int .i64) z.1, .dat q t z.2]) st else none
          else none) else none) else none
    | _ => none
  | _ => none

theorem cellsOnly_dead {σ : List AObj} {r : Nat} (h : cellsOnly σ = true) : cellsOnly (σ.set r .dead) = true := by
  unfold cellsOnly at *
  rw [List.all_eq_true] at *
  intro o ho
  rcases List.mem_or_eq_of_mem_set ho with ho | rfl
  · exact h o ho
  · rfl

theorem each_ok (hT : TblOk P T) (hfns : FnsOk P fns) (hm : P.follows .mixedOrders = true) {g0 : List Bool} {live : List Nat} {gs f p1 p2 aid : Nat} {ops : List AOp} {body : ACode} {nm0 nm1 : Norm} {t : Ty} (hWB : WalksBack P f t) (eg : ∀ args w, (callFunc f args).run P w = .ok (.enter f args) w)
    (hops : (ops.all (dstOk N) && noGuards ops && noDefer ops && Nat.blt p1 N && Nat.blt p2 N && body.ok N && body.plain) = true) (hsm : body.same) :
    SubOk P g0 N ⟨live, .rangeFunc (.tmp gs) #[p1, p2] (.region aid (ops.map (·.o)).toArray false) body.erase, eachRun R T fns fuel g0 live gs f p1 p2 ops body nm0 nm1 t⟩ := by
  intro args objs k z h x0 w0 a w Q hg C hQ
  subst hg
  simp only [Bool.and_eq_true] at hops
  obtain ⟨⟨⟨⟨⟨⟨ho1, ho2⟩, ho3⟩, hp1⟩, hp2⟩, hbok⟩, hbpl⟩ := hops
  have hp1 : p1 < N := by simpa [Nat.blt_eq] using hp1
  have hp2 : p2 < N := by simpa [Nat.blt_eq] using hp2
  have hN : ∀ ao ∈ ops, dstOk N ao = true := List.all_eq_true.1 ho1
  simp only [eachRun] at h
  split at h
  case h_2 => cases h
  rename_i f' r g hslot
  split at h
  case h_2 => cases h
  rename_i q τ xs hbox
  obtain ⟨hc, h2⟩ := cond_some h
  split at h2
  case isFalse => cases h2
  rename_i hτ
  subst hτ
  split at h2
  case isFalse => cases h2
  rename_i hlen0
  simp only [Bool.and_eq_true] at hc
  obtain ⟨⟨hff, hgg⟩, hcells⟩ := hc
  obtain rfl := Nat.eq_of_beq_eq_true hff
  obtain rfl := Nat.eq_of_beq_eq_true hgg
  obtain ⟨⟨x, hσ, G, M, hs⟩, hsz⟩ := C
  obtain ⟨u, hu, vs, e0, hcap⟩ := hs gs _ hslot
  simp only [List.cons.injEq, and_true] at e0
  obtain ⟨u0, us, rfl, hptr, hnil⟩ := hcap
  obtain rfl : us = [] := hnil
  obtain ⟨c0, ec0, _, hpr⟩ := (show (AVal.ptr r 0 []).C x [u0] from hptr)
  simp only [List.cons.injEq, and_true] at ec0
  subst ec0
  have hr : x.σ[r]? = some (.box (.dat q (.slice τ) xs)) := by rw [hσ]; exact hbox
  have hobj := obj_of_get G.mem hr
  have hrel := G.mem.objs r
  rw [hobj] at hrel
  obtain ⟨b, c, e, hμ, hb, hC, _⟩ := hrel
  unfold PtrRel at hpr
  rw [hobj] at hpr
  obtain ⟨a0, s0, of0, ha0, hat0, hu0⟩ := hpr
  rw [hμ] at ha0; cases ha0
  unfold Sh.at at hat0
  cases hat0
  have hu0 : u0 = .pointer (some ⟨b, 0, none⟩) := hu0
  have hheap : ∀ {b : Nat} {o : Obj}, x.h b = some o → w.heap[b]? = some o := fun {b o} h => by rw [G.h] at h; exact h
  -- the variable's block is let go
  obtain ⟨x1, hx1⟩ : ∃ x1 : Ctx, x1 = { x with S := fun p b => x.S p b ∨ ∃ a, x.μ r = some a ∧ a.block = b, σ := x.σ.set r .dead } := ⟨_, rfl⟩
  have G1 : Goes x w x1 w := by rw [hx1]; exact goes_still G.mem G.h hr rfl rfl
  have hbS : ∀ p, x1.S p b := fun p => by rw [hx1]; exact .inr ⟨_, hμ, rfl⟩
  have hσ1 : x1.σ = objs.set r .dead := by rw [hx1]; show x.σ.set r .dead = _; rw [hσ]
  have hSlt : ∀ p b, x1.S p b → b < w.heap.size := fun p b hb => by
    have h := (G1.mem.still p b hb).1
    rw [G1.h] at h
    exact isSome_heap.1 h
  obtain ⟨base, len, cap, ecl, _⟩ := (show Ty.Rel x.h (x.F q) (.slice τ) xs c.toList from hC)
  have hcarr : c = #[.slice base len cap] := by
    have := congrArg List.toArray ecl
    simpa using this
  have hRel : Ty.Rel (fun b => w.heap[b]?) (x1.F q) (.slice τ) xs [.slice base len cap] := by
    have h1 := Ty.Rel.congr (G1.S.t q) _ _ _ (show Ty.Rel x.h (x.F q) (.slice τ) xs c.toList from hC)
    rw [ecl] at h1
    rw [← G1.h]; exact h1
  obtain ⟨items, hA, hY⟩ := hWB w b (x1.F q) e (0, 0) (.slice base len cap) xs (by rw [hheap hb, hcarr]) hRel (fun b hb => hSlt q b hb) hlen0
  -- what the rounds keep
  obtain ⟨Fz, hFz⟩ : ∃ Fz : Nat → Prop, Fz = fun b' => b' = b ∨ x1.S q b' := ⟨_, rfl⟩
  obtain ⟨Lit, hLitd⟩ : ∃ Lit : AVal → Value → Prop, Lit = fun v u => ∃ (j : Nat) (zj : Int × τ.den) (ar : Array Value), (backL xs)[j]? = some zj ∧ items[j]? = some ar ∧ ((v = .dat true (.int .i64) zj.1 ∧ ar[0]? = some u) ∨ (v = .dat q τ zj.2 ∧ ar[1]? = some u)) := ⟨_, rfl⟩
  have hLit : ∀ v u, Lit v u → ∃ p t d, v = .dat p t d := by
    rw [hLitd]
    rintro v u ⟨j, zj, ar, _, _, ⟨rfl, _⟩ | ⟨rfl, _⟩⟩
    · exact ⟨_, _, _, rfl⟩
    · exact ⟨_, _, _, rfl⟩
  have hLitV : ∀ v u, Lit v u → v.V x1 u := by
    rw [hLitd]
    rintro v u ⟨j, zj, ar, h1, h2, h3⟩
    obtain ⟨u1, rfl, h5⟩ := hA.2 j zj ar h1 h2
    rcases h3 with ⟨rfl, h3⟩ | ⟨rfl, h3⟩
    · simp at h3; subst h3
      exact (show (AVal.dat true (.int .i64) zj.1).C x1 [.int .i64 zj.1] from rfl)
    · simp at h3; subst h3
      exact h5 q x1 G1.h (fun b hb => hb) fun _ _ _ h => h
  have hslots1 : ∀ v u, onSlots (slotsAt live args) a.tmps v u → v.V x1 u := by
    rintro v u ⟨i, h1, h2⟩
    obtain ⟨u', h3, h4⟩ := hs i v h1
    rw [h2] at h3; cases h3
    exact h4.mono G1.S G1.keeps
  have hcov0 : coversSl (slotsAt live args) a.tmps.size := fun i v h => by
    obtain ⟨u', h3, _⟩ := hs i v h
    exact (Array.getElem?_eq_some_iff.1 h3).1
  have hB : w0.heap.size ≤ w.heap.size := G.size
  have hds : ∀ d ∈ a.defers, ∀ D, d.target = .collected D → D < w.heap.size := fun d hd D hD => by
    obtain ⟨D', rfl, _, h, _⟩ := M.each d hd
    cases hD; exact h
  have h0S : ∀ p b, x0.S p b → b < w.heap.size := fun p b hb => by
    have h := (G.mem.still p b (G.S p b hb).1).1
    rw [G.h] at h
    exact isSome_heap.1 h
  have hFlt : ∀ b', Fz b' → b' < w.heap.size := by
    rw [hFz]
    rintro b' (rfl | hb')
    · exact hSlt true _ (hbS true)
    · exact hSlt q _ hb'
  have I0 : Inv x0 w0 w.heap.size a.defers Fz (fun v u => onSlots (slotsAt live args) a.tmps v u ∨ Lit v u) (objs.set r .dead) w := by
    refine ⟨cellsOnly_dead hcells, x1, hσ1, G.trans G1, M.goes G1, fun p b hb => .inl (hSlt p b hb), ?_, fun v u hv => hv.elim (hslots1 v u) (hLitV v u)⟩
    rw [hFz]
    rintro b' (rfl | hb')
    · exact hbS false
    · cases q with
      | true => exact G1.mem.sub _ hb'
      | false => exact hb'
  obtain ⟨st0, hrun, hcov, I1⟩ := Inv.norm (st := ⟨slotsAt live args, objs.set r .dead⟩) hLit h2 I0 hcov0
  obtain ⟨vals, hvals⟩ : ∃ vals : List (List AVal), vals = (backL xs).map fun z => [.dat true (.int .i64) z.1, .dat q τ z.2] := ⟨_, rfl⟩
  have hrun : eachK R T fns fuel (x0.σ.map AObj.arr0) [p1, p2] ops body nm1 k vals st0 = some z := by rw [hvals]; exact hrun
  have hlen : vals.length = items.length := by rw [hvals, List.length_map]; exact hA.1
  have heval : a.eval (.tmp gs) = .func (.func f') #[] #[.pointer (some ⟨b, 0, none⟩)] := by
    have h1 : a.eval (.tmp gs) = u := by simp [Act.eval, Array.getD_eq_getD_getElem?, hu]
    rw [h1, e0, hu0]; rfl
  have hKs : ∀ (W W' : World), (∀ b, Fz b → W'.heap[b]? = W.heap[b]?) → ∀ b', (b' = b ∨ x1.S q b') → W'.heap[b']? = W.heap[b']? := fun W W' h b' hb' => h b' (by rw [hFz]; exact hb')
  refine wp_each heval eg (items := items) (fun ar har => ?_) hY (fun h1 h2 b hb => (h2 b hb).trans (h1 b hb)) (fun W l o o' hl _ _ _ b' hb' => ?_)
    (fun j W => ∃ st, eachK R T fns fuel (x0.σ.map AObj.arr0) [p1, p2] ops body nm1 k (vals.drop j) st = some z ∧ coversSl st.slots a.tmps.size ∧ Inv x0 w0 w.heap.size a.defers Fz (fun v u => onSlots st.slots a.tmps v u ∨ Lit v u) st.σ W)
    (fun c W => ∃ e st, k e st = some z ∧ coversSl st.slots a.tmps.size ∧ Inv x0 w0 w.heap.size a.defers Fz (fun v u => onSlots st.slots a.tmps v u ∨ Lit v u) st.σ W ∧ ((∃ id, e = .exit id ∧ c = .exit id) ∨ (∃ ks, e = .ret ks ∧ c = .ret)))
    (fun s W W' row hj hg' hr' => by obtain ⟨st, h1, h2, h3⟩ := hj; exact ⟨st, h1, h2, h3.own hB hds hg' hr'⟩)
    (fun c _ W W' row hj hg' hr' => by obtain ⟨e, st, h1, h2, h3, h4⟩ := hj; exact ⟨e, st, h1, h2, h3.own hB hds hg' hr', h4⟩)
    ⟨st0, by simpa using hrun, hcov, I1⟩ ?_ ?_ ?_
  · obtain ⟨j, hj⟩ := List.mem_iff_getElem?.1 har
    have hjl : j < (backL xs).length := by rw [hA.1]; exact (List.getElem?_eq_some_iff.1 hj).1
    obtain ⟨u1, rfl, _⟩ := hA.2 j _ ar (List.getElem?_eq_getElem hjl) hj
    rfl
  · have hlt := hFlt b' (by rw [hFz]; exact hb')
    exact World.putObj_heap_other (by omega)
  · -- a round
    rintro l j ar W hl hj ⟨st, hk, hcv, I⟩ hrec
    have hjl : j < vals.length := by rw [hlen]; exact (List.getElem?_eq_some_iff.1 hj).1
    obtain ⟨zj, hzj⟩ : ∃ zj, (backL xs)[j]? = some zj := ⟨(backL xs)[j]'(by rw [hA.1]; exact (List.getElem?_eq_some_iff.1 hj).1), List.getElem?_eq_getElem _⟩
    obtain ⟨u1, rfl, hu1⟩ := hA.2 j zj ar hzj hj
    have hvj : vals[j] = [.dat true (.int .i64) zj.1, .dat q τ zj.2] := by
      have h1 : vals[j]? = some [.dat true (.int .i64) zj.1, .dat q τ zj.2] := by rw [hvals, List.getElem?_map, hzj]; rfl
      rw [List.getElem?_eq_getElem hjl] at h1; exact Option.some.inj h1
    rw [List.drop_eq_getElem_cons hjl, hvj] at hk
    simp only [eachK, eachStep] at hk
    obtain ⟨xr, hxσ, Mr, hhr, hLr, next⟩ := I.round h0S hFlt
    have hL1 : (AVal.dat true (.int .i64) zj.1).V xr (.int .i64 zj.1) := rfl
    have hL2 : (AVal.dat q τ zj.2).V xr u1 := hLr _ _ (.inr (by rw [hLitd]; exact ⟨j, zj, _, hzj, hj, .inr ⟨rfl, rfl⟩⟩))
    obtain ⟨hfs, hfv⟩ := fold_slots (x := xr) [p1, p2] [.dat true (.int .i64) zj.1, .dat q τ zj.2] [.int .i64 zj.1, u1] st.slots a.tmps (.cons hL1 (.cons hL2 .nil)) (by simp [hsz, hp1, hp2]) (fun i v hv => by
      have hi := hcv i v hv
      exact ⟨a.tmps[i], Array.getElem?_eq_getElem hi, hLr _ _ (.inl ⟨i, hv, Array.getElem?_eq_getElem hi⟩)⟩)
    have ezf := zip_fold [p1, p2] #[.int .i64 zj.1, u1] a.tmps
    simp only at ezf
    rw [ezf]
    refine wpIn_region ?_
    have hst := steps_round (l0 := l) hT hfns ops hN ho2 ho3 (Q := Exit.then (fun a1 W1 => KeepsFrom w.heap.size W W1 ∧ (∀ b', (b' = b ∨ x1.S q b') → W1.heap[b']? = W.heap[b']?) ∧ ∀ o', body.erase.wpIn (inR l) 0 P (eachPost w.heap.size (fun A B => ∀ b', (b' = b ∨ x1.S q b') → B.heap[b']? = A.heap[b']?)
      (fun j W => ∃ st, eachK R T fns fuel (x0.σ.map AObj.arr0) [p1, p2] ops body nm1 k (vals.drop j) st = some z ∧ coversSl st.slots a.tmps.size ∧ Inv x0 w0 w.heap.size a.defers Fz (fun v u => onSlots st.slots a.tmps v u ∨ Lit v u) st.σ W)
      (fun c W => ∃ e st, k e st = some z ∧ coversSl st.slots a.tmps.size ∧ Inv x0 w0 w.heap.size a.defers Fz (fun v u => onSlots st.slots a.tmps v u ∨ Lit v u) st.σ W ∧ ((∃ id, e = .exit id ∧ c = .exit id) ∨ (∃ ks, e = .ret ks ∧ c = .ret)))
      j (W1.putObj l o')) a1 (W1.putObj l o')) (fun _ _ _ => False)) (x0 := xr) (w0 := W) (z := z) ops 0 (by simp) _ { tmps := ([p1, p2].zip [Value.int .i64 zj.1, u1]).foldl (fun t (q : Nat × Value) => t.setIfInBounds q.1 q.2) a.tmps, defers := [] } W rfl hk ⟨⟨xr, hxσ, .refl Mr hhr, .nil _ _ _, hfv⟩, hfs.trans hsz⟩ ?_
    · rw [List.range_eq_range']
      simpa using hst
    intro st1 a1 W1 hk1 hd1 C1
    obtain ⟨hcells1, hk1⟩ := cond_some hk1
    obtain ⟨⟨y1, hy1, Gy1, _, hs1⟩, hsz1⟩ := C1
    obtain ⟨K1, F1, I2⟩ := next y1 W1 st1.σ (onSlots st1.slots a1.tmps) Gy1 hy1 hcells1 (by
      rintro v u ⟨i, h1, h2⟩
      obtain ⟨u', h3, h4⟩ := hs1 i v h1
      rw [h2] at h3; cases h3; exact h4)
    refine ⟨K1.from _, hKs W W1 F1, fun o' => ?_⟩
    obtain ⟨o, ho, hoc⟩ := hrec
    have I3 := I2.own hB hds (grownBy_putObj' W1 l o') fun r' e' => by cases e'; exact ⟨hl, o, K1.same _ _ ho hoc, hoc⟩
    obtain ⟨xb, hxbσ, Mb, hhb, hLb, nextb⟩ := I3.round h0S hFlt
    refine run_soundIn (x0 := xb) (w0 := W1.putObj l o') (N := N) (l := l) (n := 0) (subs := fun _ => none) (fuel := fuel) (z := z) hT hfns hm body hbok hsm hbpl st1 _ a1 (W1.putObj l o') _ (fun ⟨_, _, h⟩ => h) (by rw [hxbσ]; exact hk1) ⟨⟨xb, hxbσ, .refl Mb hhb, (by rw [hd1]; exact .nil _ _ _), fun i v hv => ?_⟩, hsz1⟩ fun e st2 a2 W3 hk2 C2 => ?_
    · obtain ⟨u', h3, _⟩ := hs1 i v hv
      exact ⟨u', h3, hLb _ _ (.inr ⟨i, hv, h3⟩)⟩
    obtain ⟨hcells2, hk2⟩ := cond_some hk2
    obtain ⟨⟨y2, hy2, Gy2, _, _⟩, _⟩ := C2
    obtain ⟨K3, F3, I4⟩ := nextb y2 W3 st2.σ (fun _ _ => False) Gy2 hy2 hcells2 (fun _ _ h => h.elim)
    have I5 : Inv x0 w0 w.heap.size a.defers Fz (fun v u => onSlots st.slots a.tmps v u ∨ Lit v u) st2.σ W3 := I4.mono fun v u hv => .inl (.inl hv)
    cases e with
    | normal =>
      obtain ⟨st3, hk3, hcv3, I6⟩ := Inv.norm (st := ⟨st.slots, st2.σ⟩) hLit hk2 I5 hcv
      exact ⟨K3.from _, hKs _ _ F3, st3, hk3, hcv3, I6⟩
    | exit id => exact ⟨K3.from _, _, _, hk2, hcv, I5, .inl ⟨id, rfl, rfl⟩⟩
    | ret ks => exact ⟨K3.from _, _, _, hk2, hcv, I5, .inr ⟨ks, rfl, rfl⟩⟩
  · rintro D W hD ⟨st, hk, hcv, I⟩ hm'
    rw [List.drop_eq_nil_of_le (by omega)] at hk
    refine hQ .normal st _ W hk (I.done (fun i v hv => ?_) hds hsz hB hD hm')
    have hi := hcv i v hv
    exact ⟨a.tmps[i], Array.getElem?_eq_getElem hi, .inl ⟨i, hv, Array.getElem?_eq_getElem hi⟩⟩
  · rintro D c W hD ⟨e, st, hk, hcv, I, hc⟩ hm'
    have CD := I.done (N := N) (D := D) (fun i v hv => by
      have hi := hcv i v hv
      exact ⟨a.tmps[i], Array.getElem?_eq_getElem hi, .inl ⟨i, hv, Array.getElem?_eq_getElem hi⟩⟩) hds hsz hB hD hm'
    rcases hc with ⟨id, rfl, rfl⟩ | ⟨ks, rfl, rfl⟩
    · exact wpIn_exit (hQ (.exit id) st _ W hk CD)
    · exact wpIn_ret (hQ (.ret ks) st _ W hk CD)
end
end Go.Am

/- The abstract machine: slices.Backward's closure walks back over its slice. -/
namespace Go.Am
open Go Go.RowKit

def opKey (o : Oper) : Option Nat × Op × Option (Nat × Bool) := (o.dst, o.op, o.guard)

theorem key_get {r : Array Oper} {l : List (Option Nat × Op × Option (Nat × Bool))} (h : r.toList.map opKey = l) {i : Nat} {k : Option Nat × Op × Option (Nat × Bool)} (hi : l[i]? = some k) : ∃ o, r[i]? = some o ∧ o.dst = k.1 ∧ o.op = k.2.1 ∧ o.guard = k.2.2 := by
  rw [← h, List.getElem?_map] at hi
  cases ho : r.toList[i]? with
  | none => rw [ho] at hi; cases hi
  | some o => rw [ho] at hi; cases hi; exact ⟨o, by simpa using ho, rfl, rfl, rfl⟩
theorem key_size {r : Array Oper} {l : List (Option Nat × Op × Option (Nat × Bool))} (h : r.toList.map opKey = l) : r.size = l.length := by
  rw [← h, List.length_map]; simp

section
variable {P : Program} {T : Tbl} {r : Array Oper} {Q : Exit → Act → World → Prop} {a : Act} {w : World}

theorem put_same {d : Nat} {v : Value} (h : d < a.tmps.size) : (a.put (some d) v).tmps[d]? = some v := by
  rw [put_at (fun e he => by cases he; exact h), if_pos rfl]
theorem put_ne {d i : Nat} {v : Value} (h : d < a.tmps.size) (hne : d ≠ i) : (a.put (some d) v).tmps[i]? = a.tmps[i]? := by
  rw [put_at (fun e he => by cases he; exact h), if_neg (by simpa using hne)]
theorem eval_tmp {i : Nat} {v : Value} (h : a.tmps[i]? = some v) : a.eval (.tmp i) = v := by simp [Act.eval, Array.getD_eq_getD_getElem?, h]

theorem opIn_value {i : Nat} {rest : List Nat} {o : Oper} (ho : r[i]? = some o) (hg : o.guard = none) (hd : ∀ c, o.op ≠ .defer c) {v : Value} (hr : (execOp a.eval o).run P w = .ok (.value v) w) (h : wpOpsIn Fence.wide 0 P r Q rest (a.put o.dst v) w) :
    wpOpsIn Fence.wide 0 P r Q (i :: rest) a w := by
  unfold wpOpsIn
  rw [ho]
  have hw : Region.wanted o (yielded r a.tmps) = true := by unfold Region.wanted; rw [hg]
  simp only [hw, if_true]
  refine ⟨fun _ _ => trivial, ?_⟩
  rw [Oper.semAt_eq _ _ _ hd, hr]
  exact h

theorem opIn_round {i : Nat} {rest : List Nat} {o : Oper} (ho : r[i]? = some o) (hg : o.guard = none) (hd : ∀ c, o.op ≠ .defer c) {l f : Nat} {tmps : Array Value} {assign body : Code} (hr : (execOp a.eval o).run P w = .ok (.round l f tmps assign body) w)
    {R : Ending → World → Prop} (hR : RoundIn Fence.wide 0 P l f tmps assign body w R) (h : ∀ e w', R e w' → ∃ v, e = .returned v ∧ wpOpsIn Fence.wide 0 P r Q rest (a.put o.dst v) w') :
    wpOpsIn Fence.wide 0 P r Q (i :: rest) a w := by
  unfold wpOpsIn
  rw [ho]
  have hw : Region.wanted o (yielded r a.tmps) = true := by unfold Region.wanted; rw [hg]
  simp only [hw, if_true]
  refine ⟨fun _ _ => trivial, ?_⟩
  rw [Oper.semAt_eq _ _ _ hd, hr]
  refine ⟨(fun h => by cases h), hR.mono fun e w' he => ?_⟩
  obtain ⟨v, rfl, h2⟩ := h e w' he
  exact h2

theorem run_yieldOp {o : Oper} {fo : Operand} {os : Array Operand} {ats : Array TypeId} (ho : o.op = .call { callee := .value fo, args := os, argTypes := ats }) {l : Nat} (hf : a.eval fo = .func (.yield l) #[] #[]) {f : Nat} {tmps : Array Value} {assign body : Code}
    (hy : (Instr.yield l (os.map a.eval)).run P w = .ok (.round l f tmps assign body) w) : (execOp a.eval o).run P w = .ok (.round l f tmps assign body) w := by
  simp [execOp, ho, resolve, Deferred.ofValue, hf, invoke, hy]

theorem run_intOp {o : Oper} {op : BinOp} {t yt : TypeId} {xo yo : Operand} (ho : o.op = .binOp op t xo yo yt) {kd : IntKind} {m n : Int} {v : Value} (hu : a.eval xo = .int kd m) (hv : a.eval yo = .int kd n) (hb : (binOp op t (.int kd m) (.int kd n)).run P w = .ok v w) :
    (execOp a.eval o).run P w = .ok (.value v) w := by
  simp only [execOp, ho, hu, hv, Sem.run_bind, run_guard_int, Result.andThen_ok, hb, Sem.run_pure]
theorem run_subI {t : TypeId} {m n : Int} : (binOp .sub t (.int .i64 m) (.int .i64 n)).run P w = .ok (.int .i64 (IntKind.wrap .i64 (m - n))) w := by simp [binOp, Op.intArith]
theorem run_geqI {t : TypeId} {m n : Int} : (binOp .geq t (.int .i64 m) (.int .i64 n)).run P w = .ok (.bool (decide (m ≥ n))) w := by simp [binOp, Op.intCmp]

theorem run_lenS {o : Oper} {vo : Operand} {ts : TypeId} (ho : o.op = .call { callee := .builtin .len, args := #[vo], argTypes := #[ts] }) {e : TypeId} (hu : P.underlying ts = some (.slice e)) {base : Option Addr} {len cap : Nat} (hv : a.eval vo = .slice base len cap) :
    (execOp a.eval o).run P w = .ok (.value (.int .i64 len)) w := by
  rw [run_len ho, hv]
  have : (Builtin.len_ #[ts] o.type #[.slice base len cap]).run P w = .ok (.int .i64 len) w := by simp [Builtin.len_, run_underlying hu, goInt]
  rw [this]; rfl

/-- How the walk's activation stands. -/
structure BwAt (l Bs : Nat) (i : Int) (a : Act) : Prop where
  size : a.tmps.size = 19
  t0 : a.tmps[0]? = some (.func (.yield l) #[] #[])
  t1 : a.tmps[1]? = some (.pointer (some ⟨Bs, 0, none⟩))
  t3 : a.tmps[3]? = some (.int .i64 i)
  dfr : a.defers = []
theorem BwAt.put {l Bs : Nat} {i : Int} (H : BwAt l Bs i a) {d : Nat} {v : Value} (h0 : d ≠ 0) (h1 : d ≠ 1) (h3 : d ≠ 3) (hd : d < 19) : BwAt l Bs i (a.put (some d) v) := by
  have hd' : d < a.tmps.size := by rw [H.size]; exact hd
  exact ⟨by rw [put_tmps.1]; exact H.size, by rw [put_ne hd' h0]; exact H.t0, by rw [put_ne hd' h1]; exact H.t1, by rw [put_ne hd' h3]; exact H.t3, by rw [put_tmps.2]; exact H.dfr⟩
theorem BwAt.put3 {l Bs : Nat} {i j : Int} (H : BwAt l Bs i a) : BwAt l Bs j (a.put (some 3) (.int .i64 j)) := by
  have hd' : 3 < a.tmps.size := by rw [H.size]; decide
  exact ⟨by rw [put_tmps.1]; exact H.size, by rw [put_ne hd' (by decide)]; exact H.t0, by rw [put_ne hd' (by decide)]; exact H.t1, put_same hd', by rw [put_tmps.2]; exact H.dfr⟩

theorem backL_get {α : Type} (xs : List α) (k : Nat) (hk : k < xs.length) : (backL xs)[k]? = some (((xs.length - 1 - k : Nat) : Int), xs[xs.length - 1 - k]'(by omega)) := by
  unfold backL
  rw [List.getElem?_reverse (by simpa using hk)]
  simp only [List.length_map, List.length_zipIdx, List.getElem?_map, List.getElem?_zipIdx]
  rw [List.getElem?_eq_getElem (by omega)]
  simp
theorem backL_length {α : Type} (xs : List α) : (backL xs).length = xs.length := by unfold backL; simp
end

section
variable {P : Program} {T : Tbl}
theorem walksBack_of (hT : TblOk P T) {f : FuncId} {fn : Func} {t : Ty} {ts te ti tb : TypeId} {i0 i1 i2 i3 b0 b1 : Nat} {r0 r1 r2 r3 : Array Oper} {ds de : TD} (hf : P.funcs[f]? = some fn) (hn : fn.ntmps = 19) (hres : fn.results = #[])
    (hb : fn.body = some (.seq (.region i0 r0 false) (.block b0 (.loop (.seq (.seq (.region i1 r1 false) (.cond (.tmp 8) .skip (.exit b0))) (.seq (.block b1 (.seq (.region i3 r3 false) (.cond (.tmp 18) .ret .skip))) (.region i2 r2 false)))))))
    (h0 : r0.toList.map opKey = [(some 4, .load ts (.tmp 1), none), (some 5, .call { callee := .builtin .len, args := #[.tmp 4], argTypes := #[ts] }, none), (some 6, .binOp .sub ti (.tmp 5) (.const (.int .i64 1)) ti, none), (some 3, .assign (.tmp 6), none)])
    (h1 : r1.toList.map opKey = [(some 7, .move (.tmp 3), none), (some 8, .binOp .geq ti (.tmp 7) (.const (.int .i64 0)) ti, none)])
    (h3 : r3.toList.map opKey = [(some 11, .move (.tmp 0), none), (some 12, .move (.tmp 3), none), (some 13, .load ts (.tmp 1), none), (some 14, .move (.tmp 3), none), (some 15, .indexAddr ts (.tmp 13) (.tmp 14), none), (some 16, .load te (.tmp 15), none),
      (some 17, .call { callee := .value (.tmp 11), args := #[.tmp 12, .tmp 16], argTypes := #[ti, te] }, none), (some 18, .unOp .not tb (.tmp 17), none)])
    (h2 : r2.toList.map opKey = [(some 9, .move (.tmp 3), none), (some 10, .binOp .sub ti (.tmp 9) (.const (.int .i64 1)) ti, none), (some 3, .assign (.tmp 10), none)])
    (hts : T ts = some ds) (hds : ds.und = .slice te ∧ ds.size = 1) (hte : T te = some de) (hde : de.size = t.size ∧ de.und.agg = t.agg) : WalksBack P f t := by
  intro w Bs S e fr sv xs hbox hrel hSlt hlen
  obtain ⟨base, len, cap, esv, hl, hcap, hnil, hrow⟩ := hrel
  simp only [List.cons.injEq, and_true] at esv
  subst esv
  have hund : P.underlying ts = some (.slice te) := by have := (hT ts ds hts).und; rw [hds.1] at this; exact this
  -- the elements' values
  obtain ⟨us, hus⟩ : ∃ us : List Value, us.length = xs.length ∧ (∀ i (hi : i < xs.length) (u : Value), us[i]? = some u → (∀ (q : Bool) (x : Ctx), x.h = (fun b => w.heap[b]?) → (∀ b, S b → x.S q b) → (∀ k j b, S.at_ k j = some b → x.at_ k j = some b) → (AVal.dat q t (xs[i])).V x u) ∧
      ∀ W : World, (∀ b, S b → W.heap[b]? = w.heap[b]?) → ∃ b o, base = some ⟨b, o, none⟩ ∧ (loadVar te ⟨b, o + i * t.size, none⟩).run P W = .ok u W) := by
    by_cases hp : 0 < len
    · obtain ⟨b, o, rfl, hSb, css, ⟨c, e1, fr1, hc1, hc2⟩, hA⟩ := hrow hp
      refine ⟨css.map (valueOf t.agg), by rw [List.length_map]; exact hA.1.symm, fun i hi u hu => ?_⟩
      rw [List.getElem?_map] at hu
      cases hci : css[i]? with
      | none => rw [hci] at hu; cases hu
      | some cs =>
        rw [hci] at hu; cases hu
        have hR := hA.2 i xs[i] cs (List.getElem?_eq_getElem hi) hci
        have hlc := Ty.Rel.length _ _ _ hR
        refine ⟨fun q x hx hS hat => ?_, fun W hW => ⟨b, o, rfl, ?_⟩⟩
        · have hC : (AVal.dat q t xs[i]).C x cs := by
            refine Ty.Rel.congr ⟨fun b hb => ⟨hS b hb, by rw [hx]⟩, hat⟩ _ _ _ hR
          exact V_valueOf (v := .dat q t xs[i]) hC fun ha => agg_one hC ha rfl
        · obtain ⟨post, e2, e3, _⟩ := flatten_part hA.lengths hci
          have := run_loadVar_at hT hte (w := W) (b := b) (o := o + i * t.size) (c := c) (e := e1) (fr := fr1) (by rw [hW b hSb]; exact hc1) (mid := cs) (fun j v hv => by
            have h4 := hc2 (i * t.size + j) v (by
              rw [e2, List.append_assoc, List.getElem?_append_right (by omega), e3, show i * t.size + j - i * t.size = j by omega, List.getElem?_append_left (List.getElem?_eq_some_iff.1 hv).1]; exact hv)
            rw [← Nat.add_assoc] at h4; exact h4) (by rw [hde.1, hlc]) (fun ha => by
              have hC : (AVal.dat true t xs[i]).C ⟨fun b => w.heap[b]?, fun _ => S.on, fun _ => none, [], S.at_, fun _ => false⟩ cs := hR
              exact agg_one hC (by rw [hde.2] at ha; exact ha) rfl)
          rw [hde.2] at this; exact this
    · have : xs = [] := by apply List.eq_nil_of_length_eq_zero; omega
      subst this
      exact ⟨[], rfl, fun i hi => absurd hi (by simp)⟩
  obtain ⟨hul, hus⟩ := hus
  refine ⟨(List.range xs.length).map fun k => #[.int .i64 ((xs.length - 1 - k : Nat) : Int), us.getD (xs.length - 1 - k) undef], ⟨by rw [backL_length]; simp, fun k z args hz ha => ?_⟩, ?_⟩
  · have hk : k < xs.length := by rw [← backL_length xs]; exact (List.getElem?_eq_some_iff.1 hz).1
    rw [backL_get xs k hk] at hz
    cases hz
    rw [List.getElem?_map, List.getElem?_range hk] at ha
    cases ha
    refine ⟨_, rfl, ?_⟩
    have hi : xs.length - 1 - k < us.length := by omega
    exact (hus (xs.length - 1 - k) (by omega) _ (by rw [List.getD_eq_getElem?_getD, List.getElem?_eq_getElem hi]; rfl)).1
  intro l J Jx W0 hW0 hJ hJx hY hJ0
  obtain ⟨items, hitems⟩ : ∃ items : List (Array Value), items = (List.range xs.length).map fun k => #[.int .i64 ((xs.length - 1 - k : Nat) : Int), us.getD (xs.length - 1 - k) undef] := ⟨_, rfl⟩
  rw [← hitems] at hY ⊢
  have hitl : items.length = xs.length := by rw [hitems]; simp
  refine callsIn_of_wp hf hb trivial ?_
  -- what lies as it lay
  have hsame0 : ∀ b, (b = Bs ∨ S b) → W0.heap[b]? = w.heap[b]? := fun b hb => hW0.block b (by
    rcases hb with rfl | hb
    · exact isSome_heap.1 (by rw [hbox]; rfl)
    · exact hSlt b hb)
  have hload : ∀ {W : World} {a : Act} {o : Oper} {v : Nat}, W.heap[Bs]? = w.heap[Bs]? → o.op = .load ts (.tmp v) → a.tmps[v]? = some (.pointer (some ⟨Bs, 0, none⟩)) → (execOp a.eval o).run P W = .ok (.value (.slice base len cap)) W := by
    intro W a o v hW ho hv
    have hl := run_loadVar_at hT hts (w := W) (b := Bs) (o := 0) (c := #[.slice base len cap]) (e := e) (fr := fr) (by rw [hW]; exact hbox) (mid := [.slice base len cap]) (fun j v hv => by
      cases j with
      | zero => simpa using hv
      | succ j => simp at hv) (by rw [hds.2]; rfl) (fun _ => rfl)
    have hag : ds.und.agg = false := by rw [hds.1]; rfl
    simp only [execOp, ho, Instr.loadAt, Instr.sureAddr, eval_tmp hv, Sem.run_bind, Sem.run_pure, Result.andThen_ok, hl, hag]
    rfl
  have hmove : ∀ {W : World} {a : Act} {o : Oper} {v : Nat} {u : Value}, (o.op = .move (.tmp v) ∨ o.op = .assign (.tmp v)) → a.tmps[v]? = some u → (execOp a.eval o).run P W = .ok (.value u) W := by
    intro W a o v u ho hv
    rcases ho with ho | ho <;> simp only [execOp, ho, eval_tmp hv, Sem.run_pure]
  have nd : ∀ {o : Oper} {op : Op}, o.op = op → (∀ c, op ≠ .defer c) → ∀ c, o.op ≠ .defer c := fun h h' c => by rw [h]; exact h' c
  -- the loop
  have main : ∀ (m k : Nat) (a : Act) (W : World), m + k = xs.length → BwAt l Bs ((xs.length : Int) - 1 - k) a → J k W → (∀ b, (b = Bs ∨ S b) → W.heap[b]? = w.heap[b]?) →
      Code.roundsIn Fence.wide 0 P (.seq (.seq (.region i1 r1 false) (.cond (.tmp 8) .skip (.exit b0))) (.seq (.block b1 (.seq (.region i3 r3 false) (.cond (.tmp 18) .ret .skip))) (.region i2 r2 false)))
        (Exit.inBlock b0 (bodyPost P fn fun e W' => (∃ v, e = .returned v) ∧ (J items.length W' ∨ Jx W'))) (m + 1) a W := by
    intro m
    induction m with
    | zero =>
      intro k a W hk A hJk hW
      show Code.wpIn _ _ _ _ _ _ _
      refine wpIn_seq (wpIn_seq (wpIn_region ?_))
      rw [key_size h1]
      show wpOpsIn _ _ _ _ _ [0, 1] _ _
      obtain ⟨o0, e0, d0, p0, g0⟩ := key_get h1 (i := 0) rfl
      refine opIn_value e0 g0 (nd p0 (by intro c h; cases h)) (hmove (.inl p0) A.t3) ?_
      rw [d0]
      have A1 := A.put (d := 7) (v := .int .i64 ((xs.length : Int) - 1 - k)) (by decide) (by decide) (by decide) (by decide)
      obtain ⟨o1, e1, d1, p1, g1⟩ := key_get h1 (i := 1) rfl
      refine opIn_value e1 g1 (nd p1 (by intro c h; cases h)) (run_intOp p1 (eval_tmp (put_same (by rw [A.size]; decide))) rfl run_geqI) ?_
      rw [d1]
      have A2 := A1.put (d := 8) (v := .bool (decide ((xs.length : Int) - 1 - k ≥ 0))) (by decide) (by decide) (by decide) (by decide)
      have hneg : decide ((xs.length : Int) - 1 - k ≥ 0) = false := by rw [decide_eq_false_iff_not]; omega
      show Code.wpIn _ _ _ _ _ _ _
      refine wpIn_cond_false (by rw [eval_tmp (put_same (by rw [A1.size]; decide)), hneg]) (wpIn_exit ?_)
      show (if b0 = b0 then _ else _)
      rw [if_pos rfl]
      exact ⟨A2.dfr, _, results_none hres _ _ _, ⟨_, rfl⟩, .inl (by rw [hitl, show xs.length = k by omega]; exact hJk)⟩
    | succ m ih =>
      intro k a W hk A hJk hW
      have hkl : k < xs.length := by omega
      have hi : (xs.length : Int) - 1 - k = ((xs.length - 1 - k : Nat) : Int) := by omega
      obtain ⟨iN, hiN⟩ : ∃ iN, iN = xs.length - 1 - k := ⟨_, rfl⟩
      rw [hi, ← hiN] at A
      have hiNl : iN < xs.length := by omega
      show Code.wpIn _ _ _ _ _ _ _
      refine wpIn_seq (wpIn_seq (wpIn_region ?_))
      rw [key_size h1]
      show wpOpsIn _ _ _ _ _ [0, 1] _ _
      obtain ⟨o0, e0, d0, p0, g0⟩ := key_get h1 (i := 0) rfl
      refine opIn_value e0 g0 (nd p0 (by intro c h; cases h)) (hmove (.inl p0) A.t3) ?_
      rw [d0]
      have A1 := A.put (d := 7) (v := .int .i64 iN) (by decide) (by decide) (by decide) (by decide)
      obtain ⟨o1, e1, d1, p1, g1⟩ := key_get h1 (i := 1) rfl
      refine opIn_value e1 g1 (nd p1 (by intro c h; cases h)) (run_intOp p1 (eval_tmp (put_same (by rw [A.size]; decide))) rfl run_geqI) ?_
      rw [d1]
      have A2 := A1.put (d := 8) (v := .bool (decide ((iN : Int) ≥ 0))) (by decide) (by decide) (by decide) (by decide)
      have hpos : decide ((iN : Int) ≥ 0) = true := by rw [decide_eq_true_iff]; omega
      show Code.wpIn _ _ _ _ _ _ _
      refine wpIn_cond_true (by rw [eval_tmp (put_same (by rw [A1.size]; decide)), hpos]) (wpIn_skip ?_)
      show Code.wpIn _ _ _ _ _ _ _
      refine wpIn_seq (wpIn_block (wpIn_seq (wpIn_region ?_)))
      rw [key_size h3]
      show wpOpsIn _ _ _ _ _ [0, 1, 2, 3, 4, 5, 6, 7] _ _
      generalize hag : ((a.put (some 7) (.int .i64 iN)).put (some 8) (.bool (decide ((iN : Int) ≥ 0)))) = ag at A2
      clear A1 e0 d0 p0 g0 e1 d1 p1 g1 o0 o1
      obtain ⟨o0, e0, d0, p0, g0⟩ := key_get h3 (i := 0) rfl
      refine opIn_value e0 g0 (nd p0 (by intro c h; cases h)) (hmove (.inl p0) A2.t0) ?_
      rw [d0]
      have B0 := A2.put (d := 11) (v := .func (.yield l) #[] #[]) (by decide) (by decide) (by decide) (by decide)
      have B0y : (ag.put (some 11) (.func (.yield l) #[] #[])).tmps[11]? = some (.func (.yield l) #[] #[]) := put_same (by rw [A2.size]; decide)
      obtain ⟨o1, e1, d1, p1, g1⟩ := key_get h3 (i := 1) rfl
      refine opIn_value e1 g1 (nd p1 (by intro c h; cases h)) (hmove (.inl p1) B0.t3) ?_
      rw [d1]
      generalize hc1 : ((ag.put (some 11) (.func (.yield l) #[] #[])).put (some 12) (.int .i64 iN)) = c1
      have C1 : BwAt l Bs iN c1 := by rw [← hc1]; exact B0.put (by decide) (by decide) (by decide) (by decide)
      have C1y : c1.tmps[11]? = some (.func (.yield l) #[] #[]) := by rw [← hc1, put_ne (by rw [B0.size]; decide) (by decide)]; exact B0y
      have C1i : c1.tmps[12]? = some (.int .i64 iN) := by rw [← hc1]; exact put_same (by rw [B0.size]; decide)
      obtain ⟨o2, e2, d2, p2, g2⟩ := key_get h3 (i := 2) rfl
      refine opIn_value e2 g2 (nd p2 (by intro c h; cases h)) (hload (hW Bs (.inl rfl)) p2 C1.t1) ?_
      rw [d2]
      generalize hc2 : (c1.put (some 13) (.slice base len cap)) = c2
      have C2 : BwAt l Bs iN c2 := by rw [← hc2]; exact C1.put (by decide) (by decide) (by decide) (by decide)
      have C2y : c2.tmps[11]? = some (.func (.yield l) #[] #[]) := by rw [← hc2, put_ne (by rw [C1.size]; decide) (by decide)]; exact C1y
      have C2i : c2.tmps[12]? = some (.int .i64 iN) := by rw [← hc2, put_ne (by rw [C1.size]; decide) (by decide)]; exact C1i
      have C2s : c2.tmps[13]? = some (.slice base len cap) := by rw [← hc2]; exact put_same (by rw [C1.size]; decide)
      obtain ⟨o3, e3, d3, p3, g3⟩ := key_get h3 (i := 3) rfl
      refine opIn_value e3 g3 (nd p3 (by intro c h; cases h)) (hmove (.inl p3) C2.t3) ?_
      rw [d3]
      generalize hc3 : (c2.put (some 14) (.int .i64 iN)) = c3
      have C3 : BwAt l Bs iN c3 := by rw [← hc3]; exact C2.put (by decide) (by decide) (by decide) (by decide)
      have C3y : c3.tmps[11]? = some (.func (.yield l) #[] #[]) := by rw [← hc3, put_ne (by rw [C2.size]; decide) (by decide)]; exact C2y
      have C3i : c3.tmps[12]? = some (.int .i64 iN) := by rw [← hc3, put_ne (by rw [C2.size]; decide) (by decide)]; exact C2i
      have C3s : c3.tmps[13]? = some (.slice base len cap) := by rw [← hc3, put_ne (by rw [C2.size]; decide) (by decide)]; exact C2s
      have C3j : c3.tmps[14]? = some (.int .i64 iN) := by rw [← hc3]; exact put_same (by rw [C2.size]; decide)
      -- the element
      have hiu : iN < us.length := by omega
      obtain ⟨b, o, hbase, hlv⟩ := (hus iN hiNl (us.getD iN undef) (by rw [List.getD_eq_getElem?_getD, List.getElem?_eq_getElem hiu]; rfl)).2 W fun b hb => hW b (.inr hb)
      obtain ⟨o4, e4, d4, p4, g4⟩ := key_get h3 (i := 4) rfl
      have r4 : (execOp c3.eval o4).run P W = .ok (.value (.pointer (some ⟨b, o + iN * t.size, none⟩))) W := by
        have hn : (0 : Int) ≤ iN ∧ (iN : Int) < len := ⟨by omega, by omega⟩
        have h2' : de.size = t.size := hde.1
        simp only [execOp, p4, Instr.indexAt, eval_tmp C3s, eval_tmp C3j, hbase, asIntOf, Sem.run_bind, Sem.run_pure, Result.andThen_ok, run_underlying hund, hn, and_self, if_true, (hT _ _ hte).sizeOf, add_mk, h2', Int.toNat_natCast]
      refine opIn_value e4 g4 (nd p4 (by intro c h; cases h)) r4 ?_
      rw [d4]
      generalize hc4 : (c3.put (some 15) (.pointer (some ⟨b, o + iN * t.size, none⟩))) = c4
      have C4 : BwAt l Bs iN c4 := by rw [← hc4]; exact C3.put (by decide) (by decide) (by decide) (by decide)
      have C4y : c4.tmps[11]? = some (.func (.yield l) #[] #[]) := by rw [← hc4, put_ne (by rw [C3.size]; decide) (by decide)]; exact C3y
      have C4i : c4.tmps[12]? = some (.int .i64 iN) := by rw [← hc4, put_ne (by rw [C3.size]; decide) (by decide)]; exact C3i
      have C4p : c4.tmps[15]? = some (.pointer (some ⟨b, o + iN * t.size, none⟩)) := by rw [← hc4]; exact put_same (by rw [C3.size]; decide)
      obtain ⟨o5, e5, d5, p5, g5⟩ := key_get h3 (i := 5) rfl
      have r5 : (execOp c4.eval o5).run P W = .ok (.value (us.getD iN undef)) W := by
        simp only [execOp, p5, Instr.loadAt, Instr.sureAddr, eval_tmp C4p, Sem.run_bind, Sem.run_pure, Result.andThen_ok, hlv]
      refine opIn_value e5 g5 (nd p5 (by intro c h; cases h)) r5 ?_
      rw [d5]
      generalize hc5 : (c4.put (some 16) (us.getD iN undef)) = c5
      have C5 : BwAt l Bs iN c5 := by rw [← hc5]; exact C4.put (by decide) (by decide) (by decide) (by decide)
      have C5y : c5.tmps[11]? = some (.func (.yield l) #[] #[]) := by rw [← hc5, put_ne (by rw [C4.size]; decide) (by decide)]; exact C4y
      have C5i : c5.tmps[12]? = some (.int .i64 iN) := by rw [← hc5, put_ne (by rw [C4.size]; decide) (by decide)]; exact C4i
      have C5u : c5.tmps[16]? = some (us.getD iN undef) := by rw [← hc5]; exact put_same (by rw [C4.size]; decide)
      obtain ⟨fn', tmps', assign', body', hy, hR⟩ := hY k #[.int .i64 (iN : Int), us.getD iN undef] W (by rw [hitems, List.getElem?_map, List.getElem?_range hkl, hiN]; rfl) hJk
      obtain ⟨o6, e6, d6, p6, g6⟩ := key_get h3 (i := 6) rfl
      have hargs : (#[Operand.tmp 12, .tmp 16].map c5.eval) = #[.int .i64 (iN : Int), us.getD iN undef] := by simp [eval_tmp C5i, eval_tmp C5u]
      refine opIn_round e6 g6 (nd p6 (by intro c h; cases h)) (run_yieldOp p6 (eval_tmp C5y) (by rw [hargs]; exact hy)) hR ?_
      rw [d6]
      have fin : ∀ (v : Bool) (W' : World), ((v = true → Code.wpIn Fence.wide 0 P (.region i2 r2 false) (Exit.then (Code.roundsIn Fence.wide 0 P (.seq (.seq (.region i1 r1 false) (.cond (.tmp 8) .skip (.exit b0))) (.seq (.block b1 (.seq (.region i3 r3 false) (.cond (.tmp 18) .ret .skip))) (.region i2 r2 false))) (Exit.inBlock b0 (bodyPost P fn fun e W' => (∃ v, e = .returned v) ∧ (J items.length W' ∨ Jx W'))) (m + 1)) (Exit.inBlock b0 (bodyPost P fn fun e W' => (∃ v, e = .returned v) ∧ (J items.length W' ∨ Jx W')))) ((c5.put (some 17) (.bool v)).put (some 18) (.bool (!v))) W') ∧ (v = false → Jx W')) → True := fun _ _ _ => trivial
      clear fin
      rintro e3 W3 (⟨rfl, hJ3, hK3⟩ | ⟨rfl, hJ3⟩)
      · refine ⟨_, rfl, ?_⟩
        have D0 := C5.put (d := 17) (v := .bool true) (by decide) (by decide) (by decide) (by decide)
        obtain ⟨o7, e7, d7, p7, g7⟩ := key_get h3 (i := 7) rfl
        have hev : (c5.put (some 17) (.bool true)).eval (.tmp 17) = .bool true := eval_tmp (put_same (by rw [C5.size]; decide))
        refine opIn_value e7 g7 (nd p7 (by intro c h; cases h)) (v := .bool false) (by simp [execOp, p7, hev, Op.unary]) ?_
        rw [d7]
        have D1 := D0.put (d := 18) (v := .bool false) (by decide) (by decide) (by decide) (by decide)
        show Code.wpIn _ _ _ _ _ _ _
        refine wpIn_cond_false (eval_tmp (put_same (by rw [D0.size]; decide))) (wpIn_skip ?_)
        show Code.wpIn _ _ _ _ _ _ _
        refine wpIn_region ?_
        rw [key_size h2]
        show wpOpsIn _ _ _ _ _ [0, 1, 2] _ _
        obtain ⟨q0, f0, k0, l0, m0⟩ := key_get h2 (i := 0) rfl
        refine opIn_value f0 m0 (nd l0 (by intro c h; cases h)) (hmove (.inl l0) D1.t3) ?_
        rw [k0]
        have D2 := D1.put (d := 9) (v := .int .i64 iN) (by decide) (by decide) (by decide) (by decide)
        obtain ⟨q1, f1, k1, l1, m1⟩ := key_get h2 (i := 1) rfl
        refine opIn_value f1 m1 (nd l1 (by intro c h; cases h)) (run_intOp l1 (eval_tmp (put_same (by rw [D1.size]; decide))) rfl run_subI) ?_
        rw [k1, wrapI (by omega) (by omega)]
        have D3 := D2.put (d := 10) (v := .int .i64 ((iN : Int) - 1)) (by decide) (by decide) (by decide) (by decide)
        obtain ⟨q2, f2, k2, l2, m2⟩ := key_get h2 (i := 2) rfl
        refine opIn_value f2 m2 (nd l2 (by intro c h; cases h)) (hmove (.inr l2) (put_same (by rw [D2.size]; decide))) ?_
        rw [k2]
        have D4 := D3.put3 (j := (iN : Int) - 1)
        show Code.roundsIn _ _ _ _ _ _ _ _
        refine ih (k + 1) _ W3 (by omega) ?_ hJ3 fun b' hb' => (hK3 b' hb').trans (hW b' hb')
        have : (xs.length : Int) - 1 - ((k + 1 : Nat) : Int) = (iN : Int) - 1 := by omega
        rw [this]; exact D4
      · refine ⟨_, rfl, ?_⟩
        have D0 := C5.put (d := 17) (v := .bool false) (by decide) (by decide) (by decide) (by decide)
        obtain ⟨o7, e7, d7, p7, g7⟩ := key_get h3 (i := 7) rfl
        have hev : (c5.put (some 17) (.bool false)).eval (.tmp 17) = .bool false := eval_tmp (put_same (by rw [C5.size]; decide))
        refine opIn_value e7 g7 (nd p7 (by intro c h; cases h)) (v := .bool true) (by simp [execOp, p7, hev, Op.unary]) ?_
        rw [d7]
        have D1 := D0.put (d := 18) (v := .bool true) (by decide) (by decide) (by decide) (by decide)
        show Code.wpIn _ _ _ _ _ _ _
        refine wpIn_cond_true (eval_tmp (put_same (by rw [D0.size]; decide))) (wpIn_ret ?_)
        exact ⟨D1.dfr, _, results_none hres _ _ _, ⟨_, rfl⟩, .inr hJ3⟩
  refine wpIn_seq (wpIn_region ?_)
  rw [key_size h0]
  show wpOpsIn _ _ _ _ _ [0, 1, 2, 3] _ _
  generalize haa : ({ tmps := (#[Value.func (.yield l) #[] #[]] ++ #[Value.pointer (some ⟨Bs, 0, none⟩)]) ++ Array.replicate (fn.ntmps - (#[Value.func (.yield l) #[] #[]] ++ #[Value.pointer (some ⟨Bs, 0, none⟩)]).size) undef, defers := [] } : Act) = aa
  have haa0 : aa.tmps.size = 19 ∧ aa.tmps[0]? = some (.func (.yield l) #[] #[]) ∧ aa.tmps[1]? = some (.pointer (some ⟨Bs, 0, none⟩)) ∧ aa.defers = [] := by
    rw [← haa, hn]; exact ⟨by simp, by simp, by simp, rfl⟩
  obtain ⟨s0, s1, s2, s3⟩ := haa0
  obtain ⟨o0, e0, d0, p0, g0⟩ := key_get h0 (i := 0) rfl
  refine opIn_value e0 g0 (nd p0 (by intro c h; cases h)) (hload (hsame0 Bs (.inl rfl)) p0 s2) ?_
  rw [d0]
  obtain ⟨o1, e1, d1, p1, g1⟩ := key_get h0 (i := 1) rfl
  refine opIn_value e1 g1 (nd p1 (by intro c h; cases h)) (run_lenS p1 hund (eval_tmp (put_same (by rw [s0]; decide)))) ?_
  rw [d1]
  obtain ⟨o2, e2, d2, p2, g2⟩ := key_get h0 (i := 2) rfl
  refine opIn_value e2 g2 (nd p2 (by intro c h; cases h)) (run_intOp p2 (eval_tmp (put_same (by rw [put_tmps.1, s0]; decide))) rfl run_subI) ?_
  rw [d2, wrapI (by omega) (by omega)]
  obtain ⟨o3, e3, d3, p3, g3⟩ := key_get h0 (i := 3) rfl
  refine opIn_value e3 g3 (nd p3 (by intro c h; cases h)) (hmove (.inr p3) (put_same (by rw [put_tmps.1, put_tmps.1, s0]; decide))) ?_
  rw [d3]
  show Code.wpIn _ _ _ _ _ _ _
  refine wpIn_block (wpIn_loop_rounds (xs.length + 1) (main xs.length 0 _ W0 rfl ?_ hJ0 hsame0))
  have z1 : 4 < aa.tmps.size := by rw [s0]; decide
  have z2 : 5 < (aa.put (some 4) (.slice base len cap)).tmps.size := by rw [put_tmps.1, s0]; decide
  have z3 : 6 < ((aa.put (some 4) (.slice base len cap)).put (some 5) (.int .i64 len)).tmps.size := by rw [put_tmps.1, put_tmps.1, s0]; decide
  have z4 : 3 < (((aa.put (some 4) (.slice base len cap)).put (some 5) (.int .i64 len)).put (some 6) (.int .i64 ((len : Int) - 1))).tmps.size := by rw [put_tmps.1, put_tmps.1, put_tmps.1, s0]; decide
  refine ⟨by rw [put_tmps.1, put_tmps.1, put_tmps.1, put_tmps.1, s0], ?_, ?_, ?_, by rw [put_tmps.2, put_tmps.2, put_tmps.2, put_tmps.2, s3]⟩
  · rw [put_ne z4 (by decide), put_ne z3 (by decide), put_ne z2 (by decide), put_ne z1 (by decide)]; exact s1
  · rw [put_ne z4 (by decide), put_ne z3 (by decide), put_ne z2 (by decide), put_ne z1 (by decide)]; exact s2
  · rw [put_same z4, hl]; simp
end
end Go.Am

/- The abstract machine: a range over a function, as a part that is told on plain data. -/
namespace Go.Am

def opsOf : ACode → List AOp
  | .region _ ops _ => ops
  | _ => []
def opsArr : Code → Array Oper
  | .region _ ops _ => ops
  | _ => #[]

theorem partOf_same (c : Code) (an : AN) : (partOf c an).same := by
  unfold partOf
  split
  · rename_i a ha; exact toA_same _ _ _ ha
  · trivial

theorem enters_fn {P : Program} {f : FuncId} {fn : Func} (hf : P.funcs[f]? = some fn) (hname : (fn.name == "runtime.NumGoroutine") = false) (hb : fn.body.isNone = false) (args : Array Value) (w : World) : (callFunc f args).run P w = .ok (.enter f args) w := by
  simp only [callFunc, Sem.run_bind, run_program, Result.andThen_ok, hf, hname, hb, Bool.false_eq_true, if_false, Sem.run_pure]

section
variable {P : Program} {T : Tbl} {fns : Fns} {R : Type} {N fuel : Nat}

/-- The rounds, where one round is told. -/
theorem eachK_eq {g0 : List Bool} {ps : List Nat} {ops : List AOp} {body : ACode} {nm : Norm} {k : AExit → St → Option R} {A X : Type} {enc : A → List AVal} {mk : X → St} {s : (X → Option R) → A → X → Option R} {l : List A → X → Option R}
    (hs : ∀ (F : St → Option R) z x, eachStep R T fns fuel g0 ps ops body nm (enc z) (mk x) F k = s (fun x => F (mk x)) z x)
    (h0 : ∀ x, k .normal (mk x) = l [] x) (h1 : ∀ z zs x, l (z :: zs) x = s (l zs) z x) : ∀ zs x, eachK R T fns fuel g0 ps ops body nm k (zs.map enc) (mk x) = l zs x := by
  intro zs
  induction zs with
  | nil => exact h0
  | cons z zs ih =>
    intro x
    rw [h1]
    have e : l zs = fun x => eachK R T fns fuel g0 ps ops body nm k (zs.map enc) (mk x) := funext fun x => (ih x).symm
    rw [e]
    exact hs _ z x

theorem subOk_of_run {g0 : List Bool} {live : List Nat} {code : Code} {f : Fr} {J : List AVal → List AObj → (AExit → St → Option R) → Option R} {run : f.den → (AExit → St → Option R) → Option R} (h : SubOk P g0 N ⟨live, code, J⟩) (hr : ∀ x k, J (f.vs x) (f.os x) k = run x k) : SubOk P g0 N (Sub.of live code f run) := by
  intro args objs k z hz x0 w0 a w Q hg C hQ
  refine h args objs k z ?_ x0 w0 a w Q hg C hQ
  simp only [Sub.of] at hz
  split at hz
  · rename_i x hx
    obtain ⟨rfl, rfl⟩ := Fr.dec_enc hx
    exact (hr x k).trans hz
  · cases hz

/-- A part that is never come to. -/
def Sub.never {R : Type} (code : Code) : Sub R := ⟨[], code, fun _ _ _ => none⟩
theorem subOk_never {g0 : List Bool} {code : Code} : SubOk P g0 N (Sub.never (R := R) code) := fun _ _ _ _ h => by cases h

/-- A range over slices.Backward's closure. -/
theorem subOk_each (hT : TblOk P T) (hfns : FnsOk P fns) (hm : P.follows .mixedOrders = true) {g0 : List Bool} {live : List Nat} {gs f p1 p2 aid : Nat} {ca cb : Code} {ana anb : AN} {nm0 nm1 : Norm} {t : Ty} (hWB : WalksBack P f t) (eg : ∀ args w, (callFunc f args).run P w = .ok (.enter f args) w) {code : Code} {fr : Fr} {run : fr.den → (AExit → St → Option R) → Option R}
    (hops : ((opsOf (partOf ca ana)).all (dstOk N) && noGuards (opsOf (partOf ca ana)) && noDefer (opsOf (partOf ca ana)) && Nat.blt p1 N && Nat.blt p2 N && (partOf cb anb).ok N && (partOf cb anb).plain) = true)
    (hc : code = .rangeFunc (.tmp gs) #[p1, p2] (.region aid ((opsOf (partOf ca ana)).map (·.o)).toArray false) (partOf cb anb).erase)
    (hr : ∀ x k, eachRun R T fns fuel g0 live gs f p1 p2 (opsOf (partOf ca ana)) (partOf cb anb) nm0 nm1 t (fr.vs x) (fr.os x) k = run x k) : SubOk P g0 N (Sub.of live code fr run) := by
  subst hc
  exact subOk_of_run (each_ok hT hfns hm hWB eg hops (partOf_same _ _)) hr
end
end Go.Am
