/- The abstract machine, seventh part: which types are which; equality. -/
import Derived.Test.YtiecnmmffplgcaaAmF
import Derived.Laws.StructEq
import Derived.ChangeKeysEq
namespace Go.Am

def hd? (T : Tbl) (size off : Nat) (f : Nat × TypeId) : Option Und :=
  match T f.2 with
  | some d => bif Nat.beq f.1 off && Nat.beq d.size size then some d.und else none
  | none => none

/-- Are the fields fs, from an offset on, what a type of data says? -/
def seqFits (T : Tbl) : Ty → Nat → List (Nat × TypeId) → Bool
  | .pair a b, off, [f] => match hd? T (a.size + b.size) off f with
    | some (.struct (g :: h :: fs)) => seqFits T a 0 [g] && seqFits T b a.size (h :: fs)
    | _ => false
  | .pair a b, off, f :: g :: fs => seqFits T a off [f] && seqFits T b (off + a.size) (g :: fs)
  | .one e, off, [f] => match hd? T e.size off f with
    | some (.struct [g]) => seqFits T e 0 [g]
    | _ => false
  | .unit, off, [f] => match hd? T 0 off f with
    | some (.struct []) => true
    | _ => false
  | .arr n e, off, [f] => match hd? T (n * e.size) off f with
    | some (.arr m g) => Nat.beq m n && seqFits T e 0 [(0, g)]
    | _ => false
  | .slice e, off, [f] => match hd? T 1 off f with
    | some (.slice g) => seqFits T e 0 [(0, g)]
    | _ => false
  | .int k, off, [f] => match hd? T 1 off f with
    | some (.int k') => k == k'
    | _ => false
  | .bool, off, [f] => match hd? T 1 off f with
    | some .bool => true
    | _ => false
  | .str, off, [f] => match hd? T 1 off f with
    | some .str => true
    | _ => false
  | _, _, _ => false

def fits (T : Tbl) (t : Ty) (id : TypeId) : Bool := seqFits T t 0 [(0, id)]

/-- Are these types, and all inside, such as are compared without more ado? -/
def seqCmp (T : Tbl) : Ty → List (Nat × TypeId) → Bool
  | .pair a b, [(_, f)] => match T f with
    | some { und := .struct (g :: h :: fs), cmp := true, .. } => seqCmp T a [g] && seqCmp T b (h :: fs)
    | _ => false
  | .pair a b, f :: g :: fs => seqCmp T a [f] && seqCmp T b (g :: fs)
  | .one e, [(_, f)] => match T f with
    | some { und := .struct [g], cmp := true, .. } => seqCmp T e [g]
    | _ => false
  | .unit, [(_, f)] => match T f with
    | some { und := .struct [], cmp := true, .. } => true
    | _ => false
  | .arr _ e, [(_, f)] => match T f with
    | some { und := .arr _ g, cmp := true, .. } => seqCmp T e [(0, g)]
    | _ => false
  | .int _, _ | .bool, _ | .str, _ => true
  | _, _ => false

def eqList {α : Type} (f : α → α → Bool) : List α → List α → Bool
  | [], [] => true
  | x :: xs, y :: ys => f x y && eqList f xs ys
  | _, _ => false

def Ty.eqB : (t : Ty) → t.den → t.den → Bool
  | .int _, x, y => decide (x = y)
  | .bool, x, y => x == y
  | .str, x, y => x.toList == y.toList
  | .unit, _, _ => true
  | .one t, x, y => Ty.eqB t x y
  | .pair a b, x, y => Ty.eqB a x.1 y.1 && Ty.eqB b x.2 y.2
  | .arr _ t, x, y => eqList (Ty.eqB t) x y
  | .slice _, _, _ => false

def Ty.depth : Ty → Nat
  | .one t | .arr _ t | .slice t => t.depth + 1
  | .pair a b => max a.depth b.depth + 2
  | _ => 1

theorem part_at {P : Program} {T : Tbl} (hT : TblOk P T) {t : TypeId} {d : TD} (ht : T t = some d) {w : World} {c : Array Value} {pre mid post : List Value} (hc : c.toList = pre ++ mid ++ post)
    (hd : d.size = mid.length) (h1 : d.und.agg = false → mid.length = 1) : (part t c pre.length).run P w = .ok (valueOf d.und.agg mid) w := by
  have hok := hT t d ht
  unfold part
  simp only [Sem.run_bind, hok.isAgg, Result.andThen_ok]
  by_cases ha : d.und.agg = true
  · simp only [ha, if_true, Sem.run_bind, hok.sizeOf, Result.andThen_ok, Sem.run_pure, valueOf, hd]
    congr 2
    apply Array.ext'
    rw [Array.toList_extract, hc]
    simp [List.extract]
  · obtain ⟨v, rfl⟩ := List.length_eq_one_iff.1 (h1 (by simpa using ha))
    have : c[pre.length]? = some v := by simpa using all2_drop_get (c := c) (pre := pre) (mid := [v]) (post := post) hc 0 rfl
    simp [ha, this, valueOf]

theorem hd?_inv {T : Tbl} {size off : Nat} {f : Nat × TypeId} {u : Und} (h : hd? T size off f = some u) : f.1 = off ∧ ∃ d, T f.2 = some d ∧ d.und = u ∧ d.size = size := by
  unfold hd? at h
  split at h
  · rename_i d hd
    obtain ⟨h1, h2⟩ := cond_some h
    rw [Bool.and_eq_true] at h1
    cases h2
    exact ⟨Nat.eq_of_beq_eq_true h1.1, d, hd, rfl, Nat.eq_of_beq_eq_true h1.2⟩
  · cases h

/-- What fits has the type's size, and is a struct or an array just if the type is. -/
theorem seqFits_one {T : Tbl} {t : Ty} {off : Nat} {f : Nat × TypeId} (h : seqFits T t off [f] = true) : f.1 = off ∧ ∃ d, T f.2 = some d ∧ d.und.agg = t.agg ∧ d.size = t.size := by
  cases t <;> simp only [seqFits] at h <;> split at h <;> first
    | (rename_i he; obtain ⟨h1, d, h2, h3, h4⟩ := hd?_inv he; exact ⟨h1, d, h2, by rw [h3]; rfl, h4⟩)
    | cases h

theorem Ty.agg_one {t : Ty} (h : t.agg = false) : t.size = 1 := by cases t <;> first | rfl | cases h

/-- Equality of what is in order compared: of one value, and of the fields one behind the other. -/
theorem eq_sound {P : Program} {T : Tbl} (hT : TblOk P T) {h1 h2 : Heap} {S1 S2 : Nat → Prop} (w : World) : ∀ (t : Ty),
    (∀ (f : Nat × TypeId) (off d : Nat) (x y : t.den) (cs ds : List Value), seqFits T t off [f] = true → seqCmp T t [f] = true → t.Rel h1 S1 x cs → t.Rel h2 S2 y ds → t.depth < d →
      (Op.equalIn d f.2 (valueOf t.agg cs) (valueOf t.agg ds)).run P w = .ok (t.eqB x y) w) ∧
    (∀ (fs : List Field) (off d : Nat) (x y : t.den) (c c' : Array Value) (pre mid post pre' mid' post' : List Value), seqFits T t off (fs.map fun f => (f.offset, f.type)) = true → seqCmp T t (fs.map fun f => (f.offset, f.type)) = true →
      c.toList = pre ++ mid ++ post → c'.toList = pre' ++ mid' ++ post' → pre.length = off → pre'.length = off → (∀ f ∈ fs, f.name ≠ "_") → t.Rel h1 S1 x mid → t.Rel h2 S2 y mid' → t.depth < d →
      (Op.eqFields d c c' fs).run P w = .ok (t.eqB x y) w) := by
  -- the fields one behind the other: one field, from what is said of one value
  have single : ∀ (t : Ty), (∀ (f : Nat × TypeId) (off d : Nat) (x y : t.den) (cs ds : List Value), seqFits T t off [f] = true → seqCmp T t [f] = true → t.Rel h1 S1 x cs → t.Rel h2 S2 y ds → t.depth < d →
      (Op.equalIn d f.2 (valueOf t.agg cs) (valueOf t.agg ds)).run P w = .ok (t.eqB x y) w) →
    ∀ (f : Field) (off d : Nat) (x y : t.den) (c c' : Array Value) (pre mid post pre' mid' post' : List Value) (rest : List Field), seqFits T t off [(f.offset, f.type)] = true → seqCmp T t [(f.offset, f.type)] = true →
      c.toList = pre ++ mid ++ post → c'.toList = pre' ++ mid' ++ post' → pre.length = off → pre'.length = off → f.name ≠ "_" → t.Rel h1 S1 x mid → t.Rel h2 S2 y mid' → t.depth < d →
      (Op.eqFields d c c' (f :: rest)).run P w = if t.eqB x y then (Op.eqFields d c c' rest).run P w else .ok false w := by
    intro t H f off d x y c c' pre mid post pre' mid' post' rest hf hc e1 e2 hp hp' hn r1 r2 hd
    obtain ⟨ho, df, hdf, hag, hsz⟩ := seqFits_one hf
    have l1 := Ty.Rel.length _ _ _ r1
    have l2 := Ty.Rel.length _ _ _ r2
    have p1 := part_at hT hdf (w := w) e1 (by rw [hsz, l1]) (fun ha => by rw [l1]; exact Ty.agg_one (hag ▸ ha))
    have p2 := part_at hT hdf (w := w) e2 (by rw [hsz, l2]) (fun ha => by rw [l2]; exact Ty.agg_one (hag ▸ ha))
    simp only at ho
    rw [hp, ← ho] at p1
    rw [hp', ← ho] at p2
    have h3 := H (f.offset, f.type) off d x y mid mid' hf hc r1 r2 hd
    rw [← hag] at h3
    simp only at h3
    simp only [Op.eqFields, hn, ne_eq, not_false_eq_true, if_true, Sem.run_bind, p1, p2, h3, Result.andThen_ok]
    cases t.eqB x y <;> simp
  -- a type that is no pair is one field
  have alone : ∀ (t : Ty), (∀ a b, t ≠ .pair a b) → (∀ (f : Nat × TypeId) (off d : Nat) (x y : t.den) (cs ds : List Value), seqFits T t off [f] = true → seqCmp T t [f] = true → t.Rel h1 S1 x cs → t.Rel h2 S2 y ds → t.depth < d →
      (Op.equalIn d f.2 (valueOf t.agg cs) (valueOf t.agg ds)).run P w = .ok (t.eqB x y) w) →
    ∀ (fs : List Field) (off d : Nat) (x y : t.den) (c c' : Array Value) (pre mid post pre' mid' post' : List Value), seqFits T t off (fs.map fun f => (f.offset, f.type)) = true → seqCmp T t (fs.map fun f => (f.offset, f.type)) = true →
      c.toList = pre ++ mid ++ post → c'.toList = pre' ++ mid' ++ post' → pre.length = off → pre'.length = off → (∀ f ∈ fs, f.name ≠ "_") → t.Rel h1 S1 x mid → t.Rel h2 S2 y mid' → t.depth < d →
      (Op.eqFields d c c' fs).run P w = .ok (t.eqB x y) w := by
    intro t hne H fs off d x y c c' pre mid post pre' mid' post' hf hc e1 e2 hp hp' hn r1 r2 hd
    match fs with
    | [] => cases t <;> cases hf
    | [f] =>
      rw [single t H f off d x y c c' pre mid post pre' mid' post' [] hf hc e1 e2 hp hp' (hn f (by simp)) r1 r2 hd]
      cases t.eqB x y <;> simp [Op.eqFields]
    | f :: g :: rest => cases t <;> first | exact absurd rfl (hne _ _) | cases hf
  have noDepth : ∀ {t : Ty} {d : Nat}, t.depth < d → ∃ d', d = d' + 1 := fun {t d} h => ⟨d - 1, by omega⟩
  intro t
  induction t with
  | int k =>
    have one : ∀ (f : Nat × TypeId) (off d : Nat) (x y : (Ty.int k).den) (cs ds : List Value), seqFits T (.int k) off [f] = true → seqCmp T (.int k) [f] = true → (Ty.int k).Rel h1 S1 x cs → (Ty.int k).Rel h2 S2 y ds → (Ty.int k).depth < d →
        (Op.equalIn d f.2 (valueOf (Ty.int k).agg cs) (valueOf (Ty.int k).agg ds)).run P w = .ok ((Ty.int k).eqB x y) w := by
      rintro f off d x y _ _ hf _ rfl rfl hd
      obtain ⟨d, rfl⟩ := noDepth hd
      simp only [seqFits] at hf
      split at hf
      · rename_i k' he
        obtain ⟨_, dd, h3, h4, _⟩ := hd?_inv he
        have hu := (hT _ _ h3).und
        rw [h4] at hu
        have := run_equalIn_int w d f.2 k k' x y hu
        exact this
      · cases hf
    exact ⟨one, alone _ (fun _ _ e => by cases e) one⟩
  | bool =>
    have one : ∀ (f : Nat × TypeId) (off d : Nat) (x y : Ty.bool.den) (cs ds : List Value), seqFits T .bool off [f] = true → seqCmp T .bool [f] = true → Ty.bool.Rel h1 S1 x cs → Ty.bool.Rel h2 S2 y ds → Ty.bool.depth < d →
        (Op.equalIn d f.2 (valueOf Ty.bool.agg cs) (valueOf Ty.bool.agg ds)).run P w = .ok (Ty.bool.eqB x y) w := by
      rintro f off d x y _ _ hf _ rfl rfl hd
      obtain ⟨d, rfl⟩ := noDepth hd
      simp only [seqFits] at hf
      split at hf
      · rename_i he
        obtain ⟨_, dd, h3, h4, _⟩ := hd?_inv he
        have hu := (hT _ _ h3).und
        rw [h4] at hu
        exact run_equalIn_bool' w d f.2 x y hu
      · cases hf
    exact ⟨one, alone _ (fun _ _ e => by cases e) one⟩
  | str =>
    have one : ∀ (f : Nat × TypeId) (off d : Nat) (x y : Ty.str.den) (cs ds : List Value), seqFits T .str off [f] = true → seqCmp T .str [f] = true → Ty.str.Rel h1 S1 x cs → Ty.str.Rel h2 S2 y ds → Ty.str.depth < d →
        (Op.equalIn d f.2 (valueOf Ty.str.agg cs) (valueOf Ty.str.agg ds)).run P w = .ok (Ty.str.eqB x y) w := by
      rintro f off d x y _ _ hf _ rfl rfl hd
      obtain ⟨d, rfl⟩ := noDepth hd
      simp only [seqFits] at hf
      split at hf
      · rename_i he
        obtain ⟨_, dd, h3, h4, _⟩ := hd?_inv he
        have hu := (hT _ _ h3).und
        rw [h4] at hu
        exact run_equalIn_string w d f.2 x y hu
      · cases hf
    exact ⟨one, alone _ (fun _ _ e => by cases e) one⟩
  | unit =>
    have one : ∀ (f : Nat × TypeId) (off d : Nat) (x y : Ty.unit.den) (cs ds : List Value), seqFits T .unit off [f] = true → seqCmp T .unit [f] = true → Ty.unit.Rel h1 S1 x cs → Ty.unit.Rel h2 S2 y ds → Ty.unit.depth < d →
        (Op.equalIn d f.2 (valueOf Ty.unit.agg cs) (valueOf Ty.unit.agg ds)).run P w = .ok (Ty.unit.eqB x y) w := by
      rintro f off d x y _ _ hf hc rfl rfl hd
      obtain ⟨d, rfl⟩ := noDepth hd
      simp only [seqCmp] at hc
      split at hc
      · rename_i hd2
        obtain ⟨fields, hu, hfl, hnm⟩ := (show UndOk P f.2 (.struct []) from (hT _ _ hd2).und)
        have hpl := (hT _ _ hd2).plain rfl
        have hfo : P.fieldsOf f.2 = fields := by simp [Program.fieldsOf, hu]
        have := run_equalIn_struct w d f.2 #[] #[] (by rw [hfo]; exact hu) hpl.1
        rw [hfo] at this
        have hnil : fields.toList = [] := by simpa using hfl
        rw [hnil] at this
        simpa [valueOf, Ty.agg, Op.eqFields, Ty.eqB] using this
      · cases hc
    exact ⟨one, alone _ (fun _ _ e => by cases e) one⟩
  | one t ih =>
    have one : ∀ (f : Nat × TypeId) (off d : Nat) (x y : (Ty.one t).den) (cs ds : List Value), seqFits T (.one t) off [f] = true → seqCmp T (.one t) [f] = true → (Ty.one t).Rel h1 S1 x cs → (Ty.one t).Rel h2 S2 y ds → (Ty.one t).depth < d →
        (Op.equalIn d f.2 (valueOf (Ty.one t).agg cs) (valueOf (Ty.one t).agg ds)).run P w = .ok ((Ty.one t).eqB x y) w := by
      intro f off d x y cs ds hf hc r1 r2 hd
      obtain ⟨d, rfl⟩ := noDepth hd
      simp only [seqCmp] at hc
      split at hc
      · rename_i g sz by_ z hd2
        obtain ⟨fields, hu, hfl, hnm⟩ := (show UndOk P f.2 (.struct [g]) from (hT _ _ hd2).und)
        have hpl := (hT _ _ hd2).plain rfl
        have hfo : P.fieldsOf f.2 = fields := by simp [Program.fieldsOf, hu]
        have := run_equalIn_struct w d f.2 cs.toArray ds.toArray (by rw [hfo]; exact hu) hpl.1
        rw [hfo] at this
        simp only [seqFits] at hf
        split at hf
        · rename_i g' he
          obtain ⟨_, dd, h3, h4, _⟩ := hd?_inv he
          rw [hd2] at h3; cases h3; cases h4
          rw [show valueOf (Ty.one t).agg cs = .agg cs.toArray from rfl, show valueOf (Ty.one t).agg ds = .agg ds.toArray from rfl, this]
          exact ih.2 fields.toList 0 d x y cs.toArray ds.toArray [] cs [] [] ds [] (by rw [hfl]; exact hf) (by rw [hfl]; exact hc) (by simp) (by simp) rfl rfl hnm r1 r2 (by simp only [Ty.depth] at hd; omega)
        · cases hf
      · cases hc
    exact ⟨one, alone _ (fun _ _ e => by cases e) one⟩
  | pair ta tb iha ihb =>
    have seq2 : ∀ (f g : Field) (fs : List Field) (off d : Nat) (x y : (Ty.pair ta tb).den) (c c' : Array Value) (pre mid post pre' mid' post' : List Value), (seqFits T ta off [(f.offset, f.type)] && seqFits T tb (off + ta.size) ((g :: fs).map fun f => (f.offset, f.type))) = true →
        (seqCmp T ta [(f.offset, f.type)] && seqCmp T tb ((g :: fs).map fun f => (f.offset, f.type))) = true → c.toList = pre ++ mid ++ post → c'.toList = pre' ++ mid' ++ post' → pre.length = off → pre'.length = off → (∀ h ∈ f :: g :: fs, h.name ≠ "_") →
        (Ty.pair ta tb).Rel h1 S1 x mid → (Ty.pair ta tb).Rel h2 S2 y mid' → (Ty.pair ta tb).depth ≤ d + 1 → (Op.eqFields d c c' (f :: g :: fs)).run P w = .ok ((Ty.pair ta tb).eqB x y) w := by
      rintro f g fs off d x y c c' pre mid post pre' mid' post' hf hc e1 e2 hp hp' hn ⟨m1, m2, rfl, ra, rb⟩ ⟨n1, n2, rfl, sa, sb⟩ hd
      rw [Bool.and_eq_true] at hf hc
      simp only [Ty.depth] at hd
      rw [single ta iha.1 f off d x.1 y.1 c c' pre m1 (m2 ++ post) pre' n1 (n2 ++ post') _ hf.1 hc.1 (by rw [e1]; simp) (by rw [e2]; simp) hp hp' (hn f (by simp)) ra sa (by omega)]
      have l1 := Ty.Rel.length _ _ _ ra
      have l2 := Ty.Rel.length _ _ _ sa
      rw [ihb.2 (g :: fs) (off + ta.size) d x.2 y.2 c c' (pre ++ m1) m2 post (pre' ++ n1) n2 post' hf.2 hc.2 (by rw [e1]; simp) (by rw [e2]; simp) (by simp [hp, l1]) (by simp [hp', l2]) (fun h hh => hn h (List.mem_cons_of_mem _ hh)) rb sb (by omega)]
      simp only [Ty.eqB]
      cases ta.eqB x.1 y.1 <;> simp
    have one : ∀ (f : Nat × TypeId) (off d : Nat) (x y : (Ty.pair ta tb).den) (cs ds : List Value), seqFits T (.pair ta tb) off [f] = true → seqCmp T (.pair ta tb) [f] = true → (Ty.pair ta tb).Rel h1 S1 x cs → (Ty.pair ta tb).Rel h2 S2 y ds → (Ty.pair ta tb).depth < d →
        (Op.equalIn d f.2 (valueOf (Ty.pair ta tb).agg cs) (valueOf (Ty.pair ta tb).agg ds)).run P w = .ok ((Ty.pair ta tb).eqB x y) w := by
      intro f off d x y cs ds hf hc r1 r2 hd
      obtain ⟨d, rfl⟩ := noDepth hd
      simp only [seqCmp] at hc
      split at hc
      · rename_i g h fs sz by_ z hd2
        obtain ⟨fields, hu, hfl, hnm⟩ := (show UndOk P f.2 (.struct (g :: h :: fs)) from (hT _ _ hd2).und)
        have hpl := (hT _ _ hd2).plain rfl
        have hfo : P.fieldsOf f.2 = fields := by simp [Program.fieldsOf, hu]
        have := run_equalIn_struct w d f.2 cs.toArray ds.toArray (by rw [hfo]; exact hu) hpl.1
        rw [hfo] at this
        simp only [seqFits] at hf
        split at hf
        · rename_i g' h' fs' he
          obtain ⟨_, dd, h3, h4, _⟩ := hd?_inv he
          rw [hd2] at h3; cases h3; cases h4
          rw [show valueOf (Ty.pair ta tb).agg cs = .agg cs.toArray from rfl, show valueOf (Ty.pair ta tb).agg ds = .agg ds.toArray from rfl, this]
          match hfs : fields.toList with
          | [] => rw [hfs] at hfl; cases hfl
          | [f1] => rw [hfs] at hfl; cases hfl
          | f1 :: f2 :: rest =>
            rw [hfs] at hfl
            simp only [List.map_cons, List.cons.injEq] at hfl
            obtain ⟨e1, e2, e3⟩ := hfl
            refine seq2 f1 f2 rest 0 d x y cs.toArray ds.toArray [] cs [] [] ds [] ?_ ?_ (by simp) (by simp) rfl rfl (by rw [← hfs]; exact hnm) r1 r2 (by omega)
            · simp only [List.map_cons, e1, e2, e3]; simpa using hf
            · simp only [List.map_cons, e1, e2, e3]; exact hc
        · cases hf
      · cases hc
    refine ⟨one, fun fs off d x y c c' pre mid post pre' mid' post' hf hc e1 e2 hp hp' hn r1 r2 hd => ?_⟩
    match fs with
    | [] => cases hf
    | [f] =>
      rw [single _ one f off d x y c c' pre mid post pre' mid' post' [] hf hc e1 e2 hp hp' (hn f (by simp)) r1 r2 hd]
      cases (Ty.pair ta tb).eqB x y <;> simp [Op.eqFields]
    | f :: g :: rest => exact seq2 f g rest off d x y c c' pre mid post pre' mid' post' hf hc e1 e2 hp hp' hn r1 r2 (by omega)
  | arr n t ih =>
    have one : ∀ (f : Nat × TypeId) (off d : Nat) (x y : (Ty.arr n t).den) (cs ds : List Value), seqFits T (.arr n t) off [f] = true → seqCmp T (.arr n t) [f] = true → (Ty.arr n t).Rel h1 S1 x cs → (Ty.arr n t).Rel h2 S2 y ds → (Ty.arr n t).depth < d →
        (Op.equalIn d f.2 (valueOf (Ty.arr n t).agg cs) (valueOf (Ty.arr n t).agg ds)).run P w = .ok ((Ty.arr n t).eqB x y) w := by
      rintro f off d x y cs ds hf hc ⟨l1, css, rfl, A⟩ ⟨l2, dss, rfl, B⟩ hd
      obtain ⟨d, rfl⟩ := noDepth hd
      simp only [seqFits] at hf
      split at hf
      case h_2 => cases hf
      rename_i m g he
      obtain ⟨_, dd, h3, h4, _⟩ := hd?_inv he
      rw [Bool.and_eq_true] at hf
      obtain rfl := Nat.eq_of_beq_eq_true hf.1
      have hu := (hT _ _ h3).und
      rw [h4] at hu
      have hg : seqCmp T t [(0, g)] = true := by
        simp only [seqCmp] at hc
        split at hc
        · rename_i hd2; rw [hd2] at h3; cases h3; cases h4; exact hc
        · cases hc
      obtain ⟨_, de, hde, hag, hsz⟩ := seqFits_one hf.2
      obtain ⟨i, hi, hisz, _⟩ := (hT _ _ hde).info
      have hcell : P.cellsOf g = t.size := by simp only [Program.cellsOf] ; simp only at hi; rw [hi]; simp [hisz, hsz]
      rw [show valueOf (Ty.arr m t).agg css.flatten = .agg css.flatten.toArray from rfl, show valueOf (Ty.arr m t).agg dss.flatten = .agg dss.flatten.toArray from rfl]
      rw [run_equalIn_array w d css.flatten.toArray dss.flatten.toArray hu hi, hcell]
      -- element by element
      have key : ∀ (xs ys : List t.den) (cs1 ds1 : List (List Value)) (k : Nat) (pc pd : List Value), xs.length = ys.length → All2 (t.Rel h1 S1) xs cs1 → All2 (t.Rel h2 S2) ys ds1 → css.flatten = pc ++ cs1.flatten → dss.flatten = pd ++ ds1.flatten → pc.length = k * t.size → pd.length = k * t.size →
          (Op.eqItems d g t.size css.flatten.toArray dss.flatten.toArray (List.range' k xs.length)).run P w = .ok (eqList t.eqB xs ys) w := by
        intro xs
        induction xs with
        | nil =>
          intro ys cs1 ds1 k pc pd hl _ _ _ _ _ _
          cases ys with
          | nil => simp [Op.eqItems, eqList]
          | cons y ys => cases hl
        | cons x0 xs ihx =>
          intro ys cs1 ds1 k pc pd hl A1 B1 e1 e2 hp hq
          cases ys with
          | nil => cases hl
          | cons y0 ys =>
            obtain ⟨c0, cs2, rfl, ra, A2⟩ := A1.cons_inv
            obtain ⟨d0, ds2, rfl, rb, B2⟩ := B1.cons_inv
            have lc := Ty.Rel.length _ _ _ ra
            have ld := Ty.Rel.length _ _ _ rb
            have p1 := part_at hT hde (w := w) (c := css.flatten.toArray) (pre := pc) (mid := c0) (post := cs2.flatten) (by rw [e1]; simp) (by rw [hsz, lc]) (fun ha => by rw [lc]; exact Ty.agg_one (hag ▸ ha))
            have p2 := part_at hT hde (w := w) (c := dss.flatten.toArray) (pre := pd) (mid := d0) (post := ds2.flatten) (by rw [e2]; simp) (by rw [hsz, ld]) (fun ha => by rw [ld]; exact Ty.agg_one (hag ▸ ha))
            rw [hp] at p1; rw [hq] at p2
            have h5 := ih.1 (0, g) 0 d x0 y0 c0 d0 hf.2 hg ra rb (by simp only [Ty.depth] at hd; omega)
            rw [← hag] at h5
            simp only at p1 p2 h5
            have h6 := ihx ys cs2 ds2 (k + 1) (pc ++ c0) (pd ++ d0) (by simpa using hl) A2 B2 (by rw [e1]; simp) (by rw [e2]; simp) (by simp [hp, lc, Nat.succ_mul]) (by simp [hq, ld, Nat.succ_mul])
            rw [List.length_cons, List.range'_succ]
            simp only [Op.eqItems, Sem.run_bind, p1, p2, h5, Result.andThen_ok, eqList]
            cases t.eqB x0 y0
            · simp
            · simpa using h6
      have := key x y css dss 0 [] [] (l1.trans l2.symm) A B rfl rfl (by simp) (by simp)
      rw [l1] at this
      rw [List.range_eq_range']
      exact this
    exact ⟨one, alone _ (fun _ _ e => by cases e) one⟩
  | slice t ih =>
    have one : ∀ (f : Nat × TypeId) (off d : Nat) (x y : (Ty.slice t).den) (cs ds : List Value), seqFits T (.slice t) off [f] = true → seqCmp T (.slice t) [f] = true → (Ty.slice t).Rel h1 S1 x cs → (Ty.slice t).Rel h2 S2 y ds → (Ty.slice t).depth < d →
        (Op.equalIn d f.2 (valueOf (Ty.slice t).agg cs) (valueOf (Ty.slice t).agg ds)).run P w = .ok ((Ty.slice t).eqB x y) w := by
      intro f off d x y cs ds hf hc; cases hc
    exact ⟨one, alone _ (fun _ _ e => by cases e) one⟩
end Go.Am
