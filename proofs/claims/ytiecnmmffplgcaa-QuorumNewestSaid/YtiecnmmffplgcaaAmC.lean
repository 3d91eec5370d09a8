/- The abstract machine, third part: a state and the memory that it stands for; what may change. -/
import Derived.Test.YtiecnmmffplgcaaAmB
namespace Go.Am

def EntryRel (x : Ctx) (K V : Ty) (e : K.den × V.den) (c : MapEntry) : Prop := (AVal.dat true K e.1).V x c.key ∧ (AVal.dat true V e.2).V x c.val

/-- An object, and what lies in memory where it lies. -/
def ObjRel (x : Ctx) (r : Nat) : AObj → Prop
  | .box v => ∃ b c e, x.μ r = some ⟨b, 0, none⟩ ∧ x.h b = some (.cells c e (0, 0)) ∧ v.C x c.toList ∧ v.flat = true
  | .arr _ t xs => (x.μ r = none ∧ xs = []) ∨ ∃ b o c e css, x.μ r = some ⟨b, o, none⟩ ∧ x.h b = some (.cells c e (0, 0)) ∧ All2 (t.Rel x.h (x.S true)) xs css ∧
      ∃ pre post, c.toList = pre ++ css.flatten ++ post ∧ pre.length = o
  | .map K V m bs clk => ∃ b es, x.μ r = some ⟨b, 0, none⟩ ∧ x.h b = some (.map es clk) ∧ All2 (EntryRel x K V) m es.toList ∧ es.toList.map (·.born) = bs
  | .iter v since seen => ∃ b m, x.μ r = some ⟨b, 0, none⟩ ∧ x.h b = some (.mapIter (some m) since seen.reverse.toArray since) ∧ v.C x [.map (some m)] ∧ v.flat = true
  | .dead | .free => True

structure Mem (x : Ctx) : Prop where
  objs : ∀ r, ObjRel x r (x.obj r)
  apart : ∀ r r' a a', r ≠ r' → (x.obj r).live = true → (x.obj r').live = true → x.μ r = some a → x.μ r' = some a' → a.block ≠ a'.block
  still : ∀ p b, x.S p b → (x.h b).isSome = true ∧ ∀ r a, (x.obj r).live = true → x.μ r = some a → a.block ≠ b
  sub : ∀ b, x.S true b → x.S false b

/-- An object that lies somewhere lies in a block that is there. -/
theorem Mem.there {x : Ctx} (M : Mem x) {r : Nat} {a : Addr} (hl : (x.obj r).live = true) (ha : x.μ r = some a) : (x.h a.block).isSome = true := by
  have h := M.objs r
  cases ho : x.obj r with
  | box v => rw [ho] at h; obtain ⟨b, c, e, h1, h2, _⟩ := h; rw [h1] at ha; cases ha; simp [h2]
  | arr g t xs =>
    rw [ho] at h
    rcases h with ⟨h1, _⟩ | ⟨b, o, c, e, css, h1, h2, _⟩
    · rw [h1] at ha; cases ha
    · rw [h1] at ha; cases ha; simp [h2]
  | map K V m bs clk => rw [ho] at h; obtain ⟨b, es, h1, h2, _⟩ := h; rw [h1] at ha; cases ha; simp [h2]
  | iter v s l => rw [ho] at h; obtain ⟨b, m, h1, h2, _⟩ := h; rw [h1] at ha; cases ha; simp [h2]
  | dead => rw [ho] at hl; cases hl
  | free => rw [ho] at hl; cases hl

theorem Keeps.refl (x : Ctx) (r : Nat) : Keeps x x r := ⟨fun _ _ _ h => h, fun _ _ h => h, fun _ _ _ _ _ h => h, fun _ h => h⟩

theorem Keeps.trans {x y z : Ctx} {r : Nat} (h : Keeps x y r) (h' : Keeps y z r) : Keeps x z r :=
  ⟨fun _ _ _ k => h'.ptr _ _ _ (h.ptr _ _ _ k), fun _ _ k => h'.slc _ _ (h.slc _ _ k), fun _ _ _ _ _ k => h'.sub _ _ _ _ _ (h.sub _ _ _ _ _ k), fun _ k => h'.map _ (h.map _ k)⟩

/-- What was free may become anything: nothing speaks of it. -/
theorem Keeps.ofFree {x x' : Ctx} {r : Nat} (h : x.obj r = .free) : Keeps x x' r := by
  refine ⟨fun g p c k => ?_, fun g c k => ?_, fun g lo len ex c k => ?_, fun c k => ?_⟩ <;> simp [PtrRel, SlcRel, SubRel, MapRel, h] at k

/-- Of what is dead nothing is said. -/
theorem Keeps.toDead {x x' : Ctx} {r : Nat} (h : x'.obj r = .dead) : Keeps x x' r := by
  refine ⟨fun g p c k => ?_, fun g c k => ?_, fun g lo len ex c k => ?_, fun c k => ?_⟩ <;> simp [PtrRel, SlcRel, SubRel, MapRel, h]

/-- The object is the same, lies where it lay, and its block is as long. -/
theorem Keeps.same {x x' : Ctx} {r : Nat} (ho : x'.obj r = x.obj r) (hm : x'.μ r = x.μ r)
    (hr : ∀ a n, (x.obj r).live = true → x.μ r = some a → Am.Roomy x.h a n → Am.Roomy x'.h a n) : Keeps x x' r := by
  refine ⟨fun g p c k => ?_, fun g c k => ?_, fun g lo len ex c k => ?_, fun c k => ?_⟩
  · simp only [PtrRel, ho, hm] at *; exact k
  · simp only [SlcRel, ho, hm] at *
    cases hobj : x.obj r with
    | arr g' t xs =>
      simp only [hobj] at k ⊢
      refine ⟨k.1, fun hg => ?_⟩; have k := k.2 hg
      cases hmu : x.μ r with
      | none => simp only [hmu] at k ⊢; exact k
      | some a => simp only [hmu] at k ⊢; obtain ⟨cap, e, hc, hroom⟩ := k; exact ⟨cap, e, hc, hr a _ (by simp [hobj, AObj.live]) hmu hroom⟩
    | _ => simp only [hobj] at k ⊢
  · simp only [SubRel, ho, hm] at *; exact k
  · simp only [MapRel, ho, hm] at *; exact k

/-- From one state to another in which object r alone is another one, or lies elsewhere; memory was written in its block alone, or in new ones. -/
structure Upd0 (x x' : Ctx) (r : Nat) : Prop where
  S : x'.S = x.S
  obj : ∀ r', r' ≠ r → x'.obj r' = x.obj r'
  μ : ∀ r', r' ≠ r → x'.μ r' = x.μ r'
  h : ∀ b, (x.h b).isSome = true → (∀ a, (x.obj r).live = true → x.μ r = some a → a.block ≠ b) → x'.h b = x.h b
  keep : Keeps x x' r
  blk : ∀ a', (x'.obj r).live = true → x'.μ r = some a' → (∃ a, (x.obj r).live = true ∧ x.μ r = some a ∧ a.block = a'.block) ∨ (x.h a'.block).isSome = false

structure Upd (x x' : Ctx) (r : Nat) : Prop extends Upd0 x x' r where
  rel : ObjRel x' r (x'.obj r)

theorem Upd0.hS {x x' : Ctx} {r : Nat} (U : Upd0 x x' r) (M : Mem x) : ∀ p b, x.S p b → x'.S p b ∧ x'.h b = x.h b := fun p b hb =>
  ⟨by rw [U.S]; exact hb, U.h b (M.still p b hb).1 fun a hl ha => (M.still p b hb).2 r a hl ha⟩

theorem Upd0.hother {x x' : Ctx} {r : Nat} (U : Upd0 x x' r) (M : Mem x) {r' : Nat} {a : Addr} (hr : r' ≠ r) (hl : (x.obj r').live = true) (ha : x.μ r' = some a) : x'.h a.block = x.h a.block :=
  U.h _ (M.there hl ha) fun a' hl' ha' => fun e => M.apart r' r a a' hr hl hl' ha ha' e.symm

theorem Upd0.keeps {x x' : Ctx} {r : Nat} (U : Upd0 x x' r) (M : Mem x) (r' : Nat) : Keeps x x' r' := by
  by_cases hr : r' = r
  · subst hr; exact U.keep
  · exact .same (U.obj r' hr) (U.μ r' hr) fun a n hl ha hroom => by unfold Am.Roomy at *; rw [U.hother M hr hl ha]; exact hroom

theorem DatV.congr {x x' : Ctx} (hs : ∀ p b, x.S p b → x'.S p b ∧ x'.h b = x.h b) {p : Bool} {t : Ty} {d : t.den} {u : Value} (h : (AVal.dat p t d).V x u) : (AVal.dat p t d).V x' u := by
  unfold AVal.V at *
  by_cases hv : (AVal.dat p t d).agg = true
  · rw [if_pos hv] at h ⊢; obtain ⟨c, e, h⟩ := h; exact ⟨c, e, Ty.Rel.congr (hs p) _ _ _ h⟩
  · rw [if_neg hv] at h ⊢; exact Ty.Rel.congr (hs p) _ _ _ h

theorem ObjRel.congr {x x' : Ctx} (hs : ∀ p b, x.S p b → x'.S p b ∧ x'.h b = x.h b) (hk : ∀ r, Keeps x x' r) {r : Nat} (hm : x'.μ r = x.μ r)
    {o : AObj} (hb : ∀ a, o.live = true → x.μ r = some a → x'.h a.block = x.h a.block) (h : ObjRel x r o) : ObjRel x' r o := by
  cases o with
  | box v => obtain ⟨b, c, e, h1, h2, h3, h4⟩ := h; exact ⟨b, c, e, hm.trans h1, (hb _ rfl h1).trans h2, h3.mono hs hk, h4⟩
  | arr g t xs =>
    rcases h with ⟨h1, h2⟩ | ⟨b, o, c, e, css, h1, h2, h3, h4⟩
    · exact .inl ⟨hm.trans h1, h2⟩
    · exact .inr ⟨b, o, c, e, css, hm.trans h1, (hb _ rfl h1).trans h2, h3.mono fun _ _ h => h.congr (hs true), h4⟩
  | map K V m bs clk =>
    obtain ⟨b, es, h1, h2, h3, h4⟩ := h
    exact ⟨b, es, hm.trans h1, (hb _ rfl h1).trans h2, h3.mono fun _ _ h => ⟨DatV.congr hs h.1, DatV.congr hs h.2⟩, h4⟩
  | iter v s l => obtain ⟨b, m, h1, h2, h3, h4⟩ := h; exact ⟨b, m, hm.trans h1, (hb _ rfl h1).trans h2, h3.mono hs hk, h4⟩
  | dead => trivial
  | free => trivial

theorem Upd.mem {x x' : Ctx} {r : Nat} (U : Upd x x' r) (M : Mem x) : Mem x' := by
  have hnew : ∀ (r' : Nat) (a a' : Addr), r' ≠ r → (x.obj r').live = true → x.μ r' = some a → (x'.obj r).live = true → x'.μ r = some a' → a.block ≠ a'.block := by
    intro r' a a' hr hl ha hl' ha' e
    rcases U.blk a' hl' ha' with ⟨a0, h1, h2, h3⟩ | h
    · exact M.apart r' r a a0 hr hl h1 ha h2 (e.trans h3.symm)
    · have := M.there hl ha; rw [e, h] at this; cases this
  refine ⟨fun r' => ?_, fun r1 r2 a1 a2 hne l1 l2 m1 m2 => ?_, fun p b hb => ?_, fun b hb => ?_⟩
  · by_cases hr : r' = r
    · subst hr; exact U.rel
    · rw [U.obj r' hr]
      refine ObjRel.congr (U.toUpd0.hS M) (U.toUpd0.keeps M) (U.μ r' hr) (fun a hl ha => U.toUpd0.hother M hr hl ha) (M.objs r')
  · by_cases h1 : r1 = r
    · subst h1
      have h2 : r2 ≠ r1 := fun e => hne e.symm
      rw [U.obj r2 h2] at l2; rw [U.μ r2 h2] at m2
      exact fun e => hnew r2 a2 a1 h2 l2 m2 l1 m1 e.symm
    · rw [U.obj r1 h1] at l1; rw [U.μ r1 h1] at m1
      by_cases h2 : r2 = r
      · subst h2; exact hnew r1 a1 a2 h1 l1 m1 l2 m2
      · rw [U.obj r2 h2] at l2; rw [U.μ r2 h2] at m2
        exact M.apart r1 r2 a1 a2 hne l1 l2 m1 m2
  · rw [U.S] at hb
    obtain ⟨h1, h2⟩ := M.still p b hb
    refine ⟨by rw [(U.toUpd0.hS M p b hb).2]; exact h1, fun r' a hl ha => ?_⟩
    by_cases hr : r' = r
    · subst hr
      rcases U.blk a hl ha with ⟨a0, k1, k2, k3⟩ | hn
      · exact fun e => h2 r' a0 k1 k2 (k3.trans e)
      · exact fun e => by rw [e] at hn; rw [hn] at h1; cases h1
    · rw [U.obj r' hr] at hl; rw [U.μ r' hr] at ha; exact h2 r' a hl ha
  · rw [U.S] at hb ⊢; exact M.sub b hb

/-- No memory was written, no object has moved; some are others now, of which no less is said. -/
theorem Mem.objects {x x' : Ctx} (M : Mem x) (hS : x'.S = x.S) (hh : x'.h = x.h) (hμ : x'.μ = x.μ) (hrel : ∀ r, ObjRel x' r (x'.obj r)) (hl : ∀ r, (x'.obj r).live = true → (x.obj r).live = true) : Mem x' :=
  ⟨hrel, fun r r' a a' hne l l' m m' => M.apart r r' a a' hne (hl r l) (hl r' l') (hμ ▸ m) (hμ ▸ m'),
    fun p b hb => by rw [hS] at hb; rw [hh, hμ]; exact ⟨(M.still p b hb).1, fun r a l m => (M.still p b hb).2 r a (hl r l) m⟩,
    fun b hb => by rw [hS] at hb ⊢; exact M.sub b hb⟩
end Go.Am
