/- The abstract machine: a state's values told otherwise: slices that are nil as empty rows, rows as data. -/
import Derived.Test.YtiecnmmffplgcaaAmX
namespace Go.Am

/-- Where a value lies: in a slot, in a variable; and the way to it. -/
inductive Loc where
  | slot (i : Nat) (p : Path)
  | box (r : Nat) (p : Path)

inductive Coe where
  | empty (l : Loc) (r : Nat) (τ : Ty)
  | dat (l : Loc) (t : Ty)
  | weak (l : Loc)
  | freeze (l : Loc)

section defs
variable {R : Type}

def locGet (st : St) : Loc → (AVal → Option R) → Option R
  | .slot i p, k => match st.slots i with
    | some v => v.getK p k
    | none => none
  | .box r p, k => match st.σ[r]? with
    | some (.box v) => v.getK p k
    | _ => none

def locSet (st : St) : Loc → AVal → (St → Option R) → Option R
  | .slot i p, u, k => match st.slots i with
    | some v => v.setK p u fun v' => bif v'.agg == v.agg then k ⟨put st.slots (some i) (some v'), st.σ⟩ else none
    | none => none
  | .box r p, u, k => match st.σ[r]? with
    | some (.box v) => v.setK p u fun v' => bif v'.flat then k ⟨st.slots, st.σ.set r (.box v')⟩ else none
    | _ => none

def coeK (c : Coe) (st : St) (k : St → Option R) : Option R :=
  match c with
  | .empty l r τ => locGet st l fun
    | .nils => match st.σ[r]? with
      | some .free => locSet ⟨st.slots, st.σ.set r (.arr 0 τ [])⟩ l (.slc r 0) k
      | _ => none
    | _ => none
  | .dat l t => locGet st l fun u => match toDat t u with
    | some d => locSet st l (.dat true t d) k
    | none => none
  | .weak l => locGet st l fun
    | .dat _ t d => locSet st l (.dat false t d) k
    | _ => none
  | .freeze l => locGet st l fun
    | .slc r g => match st.σ[r]? with
      | some (.arr g' τ xs) => bif Nat.beq g g' then locSet ⟨st.slots, st.σ.set r .dead⟩ l (.dat true (.slice τ) xs) k else none
      | _ => none
    | .sub r g lo len _ => match st.σ[r]? with
      | some (.arr g' τ xs) => bif Nat.beq g g' then locSet ⟨st.slots, st.σ.set r .dead⟩ l (.dat true (.slice τ) ((xs.drop lo).take len)) k else none
      | _ => none
    | _ => none
end defs

section
variable {R : Type}

theorem locGet_inv {st : St} {l : Loc} {k : AVal → Option R} {z : R} (h : locGet st l k = some z) : ∃ u, locGet st l some = some u ∧ k u = some z := by
  unfold locGet at h ⊢
  cases l with
  | slot i p =>
    simp only at h ⊢
    split at h
    · obtain ⟨u, h1, h2⟩ := getK_inv _ _ _ _ h; exact ⟨u, h1, h2⟩
    · cases h
  | box r p =>
    simp only at h ⊢
    split at h
    · obtain ⟨u, h1, h2⟩ := getK_inv _ _ _ _ h; exact ⟨u, h1, h2⟩
    · cases h

theorem respell {x y : Ctx} {v u u' v' : AVal} {p : Path} {cs : List Value} (hC : v.C x cs) (hCy : v.C y cs) (hget : v.getK p some = some u) (hset : v.setK p u' some = some v') (hu : ∀ c, u.C x c → u'.C y c) : v'.C y cs ∧ v'.sh = v.sh := by
  obtain ⟨o, ho, pre, mid, post, rfl, hp, hm⟩ := getK_sound p v u cs hC hget
  obtain ⟨hsh, o', ho', pre', mid', post', e, hp', hl, hv⟩ := setK_sound p v u' v' _ hCy hset mid (hu mid hm)
  rw [ho] at ho'
  simp only [Option.some.injEq, Prod.mk.injEq] at ho'
  obtain ⟨_, rfl⟩ := ho'
  rw [List.append_assoc, List.append_assoc] at e
  obtain ⟨e1, e⟩ := List.append_inj e (hp.trans hp'.symm)
  obtain ⟨e2, e3⟩ := List.append_inj e hl.symm
  subst e1 e2 e3
  exact ⟨hv, hsh⟩

/-- One variable's value is told otherwise. -/
theorem goes_box {x : Ctx} {w : World} (M : Mem x) (hh : x.h = fun b => w.heap[b]?) {r : Nat} {v v' : AVal} (h0 : x.σ[r]? = some (.box v)) (hsh : v'.sh = v.sh) (hf : v'.flat = true) (hC : ∀ b (c : Array Value) e, x.μ r = some ⟨b, 0, none⟩ → x.h b = some (.cells c e (0, 0)) → v.C x c.toList → v'.C x c.toList) : Goes x w { x with σ := x.σ.set r (.box v') } w := by
  have hob : ∀ r', ({ x with σ := x.σ.set r (.box v') } : Ctx).obj r' = if r' = r then .box v' else x.obj r' := fun r' => obj_set h0
  have hobj := obj_of_get h0
  have U0 : Upd0 x { x with σ := x.σ.set r (.box v') } r := {
    S := rfl
    obj := fun r' hr => by rw [hob, if_neg hr]
    μ := fun r' hr => rfl
    h := fun b hs hne => rfl
    keep := by
      refine ⟨fun g p c k => ?_, fun g c k => ?_, fun g lo len ex c k => ?_, fun c k => ?_⟩
      · unfold PtrRel at k ⊢; rw [hobj] at k; rw [hob, if_pos rfl]; simp only [hsh]; exact k
      · unfold SlcRel; rw [hob, if_pos rfl]; trivial
      · unfold SubRel; rw [hob, if_pos rfl]; trivial
      · unfold MapRel; rw [hob, if_pos rfl]; trivial
    blk := fun a' _ ha' => .inl ⟨a', by rw [hobj]; rfl, ha', rfl⟩ }
  have hrel := M.objs r
  rw [hobj] at hrel
  obtain ⟨b, c, e, h1, h2, h3, h4⟩ := hrel
  have U : Upd x { x with σ := x.σ.set r (.box v') } r := ⟨U0, by
    rw [hob, if_pos rfl]
    exact ⟨b, c, e, h1, h2, (hC b c e h1 h2 h3).mono (U0.hS M) (U0.keeps M), hf⟩⟩
  exact U.goes M hh hh rfl rfl rfl (Nat.le_refl _)

theorem slots_mono {x y : Ctx} {w : World} {tmps : Array Value} {s : Nat → Option AVal} (G : Goes x w y w) (h : ∀ i v, s i = some v → ∃ u, tmps[i]? = some u ∧ v.V x u) : ∀ i v, s i = some v → ∃ u, tmps[i]? = some u ∧ v.V y u := by
  intro i v hv
  obtain ⟨u, h1, h2⟩ := h i v hv
  exact ⟨u, h1, V_of_C rfl (fun cs hc => hc.mono G.S G.keeps) h2⟩

theorem locSet_sound {st : St} {σ1 : List AObj} {l : Loc} {u u' : AVal} {k : St → Option R} {z : R} {x x1 : Ctx} {w : World} {tmps : Array Value} (M : Mem x) (hh : x.h = fun b => w.heap[b]?) (G1 : Goes x w x1 w) (hσ : x.σ = st.σ) (hσ1 : x1.σ = σ1)
    (hbox : ∀ (r : Nat) (v : AVal), σ1[r]? = some (AObj.box v) → st.σ[r]? = some (AObj.box v)) (hs : ∀ i v, st.slots i = some v → ∃ u, tmps[i]? = some u ∧ v.V x u)
    (hget : locGet st l some = some u) (hset : locSet ⟨st.slots, σ1⟩ l u' k = some z) (hu : ∀ c, u.C x c → u'.C x1 c) :
    ∃ st' x', k st' = some z ∧ x'.σ = st'.σ ∧ Goes x w x' w ∧ ∀ i v, st'.slots i = some v → ∃ u, tmps[i]? = some u ∧ v.V x' u := by
  have hs1 := slots_mono G1 hs
  cases l with
  | slot i p =>
    simp only [locGet, locSet] at hget hset
    cases hi : st.slots i with
    | none => rw [hi] at hget; cases hget
    | some v =>
      rw [hi] at hget hset
      simp only at hset
      obtain ⟨v', hset2, hk⟩ := setK_inv _ _ _ _ _ hset
      obtain ⟨hag, hk⟩ := cond_some hk
      have hag : v'.agg = v.agg := beq_iff_eq.1 hag
      refine ⟨_, x1, hk, hσ1, G1, fun j v2 hv2 => ?_⟩
      simp only [put] at hv2
      cases hj : Nat.beq j i with
      | false => rw [hj] at hv2; exact hs1 j v2 hv2
      | true =>
        rw [hj] at hv2
        simp only [cond_true, Option.some.injEq] at hv2
        subst hv2
        obtain rfl := Nat.eq_of_beq_eq_true hj
        obtain ⟨uu, h1, h2⟩ := hs j v hi
        refine ⟨uu, h1, ?_⟩
        have hmono : ∀ cs, v.C x cs → v.C x1 cs := fun cs hc => hc.mono G1.S G1.keeps
        exact V_of_C hag (fun cs hc => (respell hc (hmono cs hc) hget hset2 hu).1) h2
  | box r p =>
    simp only [locGet, locSet] at hget hset
    split at hset
    case h_2 => cases hset
    rename_i v hr1
    have hr := hbox r v hr1
    rw [hr] at hget
    simp only at hget
    obtain ⟨v', hset, hk⟩ := setK_inv _ _ _ _ _ hset
    obtain ⟨hf, hk⟩ := cond_some hk
    have h0 : x.σ[r]? = some (.box v) := by rw [hσ]; exact hr
    have h1 : x1.σ[r]? = some (.box v) := by rw [hσ1]; exact hr1
    -- what the variable holds lies the same in both states
    have hrel := M.objs r
    rw [obj_of_get h0] at hrel
    obtain ⟨b, c, e, k1, k2, k3, k4⟩ := hrel
    have hrel1 := G1.mem.objs r
    rw [obj_of_get h1] at hrel1
    obtain ⟨b1, c1, e1, m1, m2, m3, m4⟩ := hrel1
    have hmu : PtrRel x r 0 [] (ptrTo ⟨b, 0, none⟩ 0) := by
      unfold PtrRel; rw [obj_of_get h0]; exact ⟨_, v.sh, 0, k1, by unfold Sh.at; rfl, rfl⟩
    have hmu1 := (G1.keeps r).ptr _ _ _ hmu
    unfold PtrRel at hmu1
    rw [obj_of_get h1] at hmu1
    obtain ⟨a2, s2, o2, n1, n2, n3⟩ := hmu1
    rw [m1] at n1; cases n1
    unfold Sh.at at n2
    cases n2
    simp only [ptrTo, Value.pointer.injEq, Option.some.injEq, Addr.mk.injEq, and_true] at n3
    obtain ⟨rfl, _⟩ := n3
    have hsame : c1 = c := by
      have e1 : x1.h b = x.h b := by rw [G1.h, hh]
      rw [m2, k2] at e1; cases e1; rfl
    subst hsame
    obtain ⟨hk3, hsh⟩ := respell k3 m3 hget hset hu
    have G2 := goes_box (w := w) G1.mem G1.h h1 hsh hf (fun b2 c2 e2 q1 q2 _ => by
      rw [m1] at q1; cases q1
      rw [m2] at q2; cases q2
      exact hk3)
    exact ⟨_, _, hk, by show x1.σ.set r _ = _; rw [hσ1], G1.trans G2, slots_mono G2 hs1⟩

/-- Data that are the call's own are no one's to write: a row is told as data, and is let go. -/
theorem goes_freeze {x : Ctx} {w : World} (M : Mem x) (hh : x.h = fun b => w.heap[b]?) {r g' : Nat} {τ : Ty} {xs : List τ.den} (h0 : x.σ[r]? = some (.arr g' τ xs)) :
    ∃ x1, Goes x w x1 w ∧ x1.σ = x.σ.set r .dead ∧ (∀ c, (AVal.slc r g').C x c → (AVal.dat true (.slice τ) xs).C x1 c) ∧
      ∀ lo len ex c, (AVal.sub r g' lo len ex).C x c → (AVal.dat true (.slice τ) ((xs.drop lo).take len)).C x1 c := by
  have hobj := obj_of_get h0
  have hrel := M.objs r
  rw [hobj] at hrel
  let x1 : Ctx := { h := x.h, S := fun p b => x.S p b ∨ ∃ a, x.μ r = some a ∧ a.block = b, μ := x.μ, σ := x.σ.set r .dead }
  have hob : ∀ r', x1.obj r' = if r' = r then .dead else x.obj r' := fun r' => obj_set h0
  have hS : ∀ p b, x.S p b → x1.S p b ∧ x1.h b = x.h b := fun p b h => ⟨.inl h, rfl⟩
  have hk : ∀ r', Keeps x x1 r' := fun r' => by
    by_cases e : r' = r
    · subst e; exact .toDead (by rw [hob, if_pos rfl])
    · exact .same (by rw [hob, if_neg e]) rfl fun a n _ _ h => h
  have hlive : ∀ r', (x1.obj r').live = true → r' ≠ r ∧ (x.obj r').live = true := fun r' h => by
    rw [hob] at h
    by_cases e : r' = r
    · rw [if_pos e] at h; cases h
    · rw [if_neg e] at h; exact ⟨e, h⟩
  have hmem : Mem x1 := {
    objs := fun r' => by
      rw [hob]
      by_cases e : r' = r
      · rw [if_pos e]; trivial
      · rw [if_neg e]; exact ObjRel.congr hS hk rfl (fun _ _ _ => rfl) (M.objs r')
    apart := fun r1 r2 a1 a2 hne l1 l2 m1 m2 => M.apart r1 r2 a1 a2 hne (hlive _ l1).2 (hlive _ l2).2 m1 m2
    still := fun p b hb => by
      rcases hb with hb | ⟨a, ha, rfl⟩
      · exact ⟨(M.still p b hb).1, fun r' a l m => (M.still p b hb).2 r' a (hlive _ l).2 m⟩
      · exact ⟨M.there (by rw [hobj]; rfl) ha, fun r' a' l m => M.apart r' r a' a (hlive _ l).1 (hlive _ l).2 (by rw [hobj]; rfl) m ha⟩
    sub := fun b hb => hb.elim (fun h => .inl (M.sub b h)) .inr }
  have G : Goes x w x1 w := {
    mem := hmem
    h := hh
    S := hS
    keeps := hk
    os := rfl
    tape := rfl
    output := rfl
    size := Nat.le_refl _
    frame := fun b hb _ => rfl
    own := fun b ⟨r', a, l, m, e⟩ => .inl ⟨r', a, (hlive _ l).2, m, e⟩
    newS := fun p b hb => by
      rcases hb with hb | ⟨a, ha, e⟩
      · exact .inl hb
      · exact .inr (.inl ⟨r, a, by rw [hobj]; rfl, ha, e⟩) }
  refine ⟨x1, G, rfl, fun c hc => ?_, fun lo len ex c hc => ?_⟩
  · obtain ⟨c0, rfl, _, hs⟩ := hc
    unfold SlcRel at hs
    rw [hobj] at hs
    have hs := hs.2 rfl
    rcases hrel with ⟨h1, h2⟩ | ⟨b, o, c, e, css, h1, h2, A, pre, post, h4, h5⟩
    · subst h2
      simp only [h1] at hs
      obtain ⟨b, rfl⟩ := hs
      exact ⟨b, 0, 0, rfl, rfl, Nat.le_refl _, fun _ => rfl, fun h => absurd h (Nat.lt_irrefl _)⟩
    · simp only [h1] at hs
      obtain ⟨cap, rfl, e2, _⟩ := hs
      exact ⟨_, _, cap, rfl, rfl, e2, (fun h => by cases h), fun _ => ⟨b, o, rfl, .inr ⟨_, h1, rfl⟩, css, ⟨c, e, _, h2, fun j v hj => by rw [← h5]; exact all2_drop_get h4 j hj⟩, A.mono fun _ _ h => h.congr (hS true)⟩⟩
  · obtain ⟨c0, rfl, _, hs⟩ := hc
    unfold SubRel at hs
    rw [hobj] at hs
    obtain ⟨hle, base, cap, rfl, e2, _, _, e3, e4⟩ := hs.2 rfl
    have hlen : ((xs.drop lo).take len).length = len := by rw [List.length_take, List.length_drop]; omega
    refine ⟨base, len, cap, rfl, hlen.symm, e2, e3, fun hp => ?_⟩
    rcases hrel with ⟨h1, h2⟩ | ⟨b, o, c, e, css, h1, h2, A, pre, post, h4, h5⟩
    · subst h2; simp only [List.length_nil] at hle; omega
    · cases base with
      | none => have := e3 rfl; omega
      | some b0 =>
        obtain ⟨a0, f1, f2⟩ := e4 b0 rfl (by omega)
        rw [h1] at f1; cases f1
        rw [add_mk] at f2; subst f2
        have hA := take_take_all2 (drop_all2 A lo) len
        refine ⟨b, _, rfl, .inr ⟨_, h1, rfl⟩, (css.drop lo).take len, ⟨c, e, _, h2, fun j v hj => ?_⟩, hA.mono fun _ _ h => h.congr (hS true)⟩
        have hsplit : css.flatten = (css.take lo).flatten ++ ((css.drop lo).take len).flatten ++ ((css.drop lo).drop len).flatten := by
          conv => lhs; rw [← List.take_append_drop lo css, ← List.take_append_drop len (css.drop lo)]
          simp [List.flatten_append, List.append_assoc]
        have hpl : (css.take lo).flatten.length = lo * τ.size := by
          rw [flatten_length (n := τ.size) (fun d hd => A.lengths d (List.mem_of_mem_take hd)), List.length_take, ← A.1, Nat.min_eq_left (by omega)]
        have := all2_drop_get (c := c) (pre := pre ++ (css.take lo).flatten) (mid := ((css.drop lo).take len).flatten) (post := ((css.drop lo).drop len).flatten ++ post) (by rw [h4, hsplit]; simp [List.append_assoc]) j hj
        rw [List.length_append, h5, hpl] at this; exact this

theorem set_box {σ : List AObj} {r0 : Nat} {o : AObj} (ho : ∀ v, o ≠ .box v) : ∀ (r : Nat) (v : AVal), (σ.set r0 o)[r]? = some (AObj.box v) → σ[r]? = some (AObj.box v) := by
  intro r v h
  rw [List.getElem?_set] at h
  split at h
  · split at h
    · simp only [Option.some.injEq] at h; exact absurd h (ho v)
    · cases h
  · exact h

theorem coe_sound {x0 : Ctx} {w0 : World} {N : Nat} {c : Coe} {st : St} {k : St → Option R} {z : R} (h : coeK c st k = some z) {a : Act} {w : World} (C : Conc x0 w0 N st a w) : ∃ st', k st' = some z ∧ Conc x0 w0 N st' a w := by
  obtain ⟨⟨x, hσ, G, hs⟩, hsz, hdf⟩ := C
  have fin : ∀ (σ1 : List AObj) (l : Loc) (u u' : AVal) (x1 : Ctx), Goes x w x1 w → x1.σ = σ1 → (∀ (r : Nat) (v : AVal), σ1[r]? = some (AObj.box v) → st.σ[r]? = some (AObj.box v)) → locGet st l some = some u → locSet ⟨st.slots, σ1⟩ l u' k = some z → (∀ c, u.C x c → u'.C x1 c) → ∃ st', k st' = some z ∧ Conc x0 w0 N st' a w := by
    intro σ1 l u u' x1 G1 h1 h2 h3 h4 h5
    obtain ⟨st', x', k1, k2, k3, k4⟩ := locSet_sound G.mem G.h G1 hσ h1 h2 hs h3 h4 h5
    exact ⟨st', k1, ⟨x', k2, G.trans k3, k4⟩, hsz, hdf⟩
  cases c with
  | empty l r τ =>
    simp only [coeK] at h
    obtain ⟨u, h1, h2⟩ := locGet_inv h
    split at h2
    · split at h2
      · rename_i hr
        rw [← hσ] at hr
        obtain ⟨G1, V⟩ := goes_empty G.mem G.h τ hr
        refine fin _ l .nils (.slc r 0) _ G1 (by rw [hσ]) (set_box fun v e => by cases e) h1 h2 fun c hc => ?_
        obtain ⟨b, rfl⟩ := hc
        exact V b
      · cases h2
    · cases h2
  | dat l t =>
    simp only [coeK] at h
    obtain ⟨u, h1, h2⟩ := locGet_inv h
    split at h2
    · rename_i d hd
      exact fin st.σ l u _ x (.refl G.mem G.h) hσ (fun _ _ h => h) h1 h2 fun c hc => toDat_C t u d c hd hc
    · cases h2
  | weak l =>
    simp only [coeK] at h
    obtain ⟨u, h1, h2⟩ := locGet_inv h
    split at h2
    · rename_i q t d
      refine fin st.σ l _ _ x (.refl G.mem G.h) hσ (fun _ _ h => h) h1 h2 fun c hc => ?_
      cases q with
      | true => exact Ty.Rel.congr (fun b hb => ⟨G.mem.sub b hb, rfl⟩) _ _ _ hc
      | false => exact hc
    · cases h2
  | freeze l =>
    simp only [coeK] at h
    obtain ⟨u, h1, h2⟩ := locGet_inv h
    split at h2
    · rename_i r g
      split at h2
      · rename_i g' τ xs hr
        obtain ⟨hg, h3⟩ := cond_some h2
        obtain rfl := Nat.eq_of_beq_eq_true hg
        rw [← hσ] at hr
        obtain ⟨x1, G1, e1, e2, _⟩ := goes_freeze G.mem G.h hr
        exact fin _ l _ _ x1 G1 (by rw [e1, hσ]) (set_box fun v e => by cases e) h1 h3 e2
      · cases h2
    · rename_i r g lo len ex
      split at h2
      · rename_i g' τ xs hr
        obtain ⟨hg, h3⟩ := cond_some h2
        obtain rfl := Nat.eq_of_beq_eq_true hg
        rw [← hσ] at hr
        obtain ⟨x1, G1, e1, _, e2⟩ := goes_freeze G.mem G.h hr
        exact fin _ l _ _ x1 G1 (by rw [e1, hσ]) (set_box fun v e => by cases e) h1 h3 (e2 _ _ _)
      · cases h2
    · cases h2
end
end Go.Am
