/- The abstract machine: G H I J K. -/
import Derived.Test.YtbamjkhnnlekpaaAmF
import Derived.Laws.StructEq
import Derived.ChangeKeysEq
import Derived.Laws.Cover1
/- The abstract machine, seventh part: which types are which; equality. -/
namespace Go.Am

def hd? (T : Tbl) (size off : Nat) (f : Nat × TypeId) : Option Und :=
  match T f.2 with
  | some d => bif Nat.beq f.1 off && Nat.beq d.size size then some d.und else none
  | none => none

/-- Are the fields fs, from an offset on, what a type of data says? -/
def seqFits (T : Tbl) : Ty → Nat → List (Nat × TypeId) → Bool
  | .pair a b, off, [f] => match hd? T (a.size + b.size) off f with
    | some (.struct (g :: h :: fs)) => seqFits T a 0 [g] && seqFits T b a.size (h :: fs)
    | _ => false
  | .pair a b, off, f :: g :: fs => seqFits T a off [f] && seqFits T b (off + a.size) (g :: fs)
  | .one e, off, [f] => match hd? T e.size off f with
    | some (.struct [g]) => seqFits T e 0 [g]
    | _ => false
  | .unit, off, [f] => match hd? T 0 off f with
    | some (.struct []) => true
    | _ => false
  | .arr n e, off, [f] => match hd? T (n * e.size) off f with
    | some (.arr m g) => Nat.beq m n && seqFits T e 0 [(0, g)]
    | _ => false
  | .slice e, off, [f] => match hd? T 1 off f with
    | some (.slice g) => seqFits T e 0 [(0, g)]
    | _ => false
  | .int k, off, [f] => match hd? T 1 off f with
    | some (.int k') => k == k'
    | _ => false
  | .bool, off, [f] => match hd? T 1 off f with
    | some .bool => true
    | _ => false
  | .str, off, [f] => match hd? T 1 off f with
    | some .str => true
    | _ => false
  | .pref _, off, [f] => match hd? T 1 off f with
    | some (.ptr _) => true
    | _ => false
  | _, _, _ => false

def fits (T : Tbl) (t : Ty) (id : TypeId) : Bool := seqFits T t 0 [(0, id)]

/-- Are these types, and all inside, such as are compared without more ado? -/
def seqCmp (T : Tbl) : Ty → List (Nat × TypeId) → Bool
  | .pair a b, [(_, f)] => match T f with
    | some { und := .struct (g :: h :: fs), cmp := true, .. } => seqCmp T a [g] && seqCmp T b (h :: fs)
    | _ => false
  | .pair a b, f :: g :: fs => seqCmp T a [f] && seqCmp T b (g :: fs)
  | .one e, [(_, f)] => match T f with
    | some { und := .struct [g], cmp := true, .. } => seqCmp T e [g]
    | _ => false
  | .unit, [(_, f)] => match T f with
    | some { und := .struct [], cmp := true, .. } => true
    | _ => false
  | .arr _ e, [(_, f)] => match T f with
    | some { und := .arr _ g, cmp := true, .. } => seqCmp T e [(0, g)]
    | _ => false
  | .int _, _ | .bool, _ | .str, _ => true
  | _, _ => false

def eqList {α : Type} (f : α → α → Bool) : List α → List α → Bool
  | [], [] => true
  | x :: xs, y :: ys => f x y && eqList f xs ys
  | _, _ => false

def Ty.eqB : (t : Ty) → t.den → t.den → Bool
  | .int _, x, y => decide (x = y)
  | .bool, x, y => x == y
  | .str, x, y => x.toList == y.toList
  | .unit, _, _ => true
  | .one t, x, y => Ty.eqB t x y
  | .pair a b, x, y => Ty.eqB a x.1 y.1 && Ty.eqB b x.2 y.2
  | .arr _ t, x, y => eqList (Ty.eqB t) x y
  | .slice _, _, _ => false
  | .pref _, _, _ => false

def Ty.depth : Ty → Nat
  | .one t | .arr _ t | .slice t => t.depth + 1
  | .pair a b => max a.depth b.depth + 2
  | _ => 1

theorem part_at {P : Program} {T : Tbl} (hT : TblOk P T) {t : TypeId} {d : TD} (ht : T t = some d) {w : World} {c : Array Value} {pre mid post : List Value} (hc : c.toList = pre ++ mid ++ post)
    (hd : d.size = mid.length) (h1 : d.und.agg = false → mid.length = 1) : (part t c pre.length).run P w = .ok (valueOf d.und.agg mid) w := by
  have hok := hT t d ht
  unfold part
  simp only [Sem.run_bind, hok.isAgg, Result.andThen_ok]
  by_cases ha : d.und.agg = true
  · simp only [ha, if_true, Sem.run_bind, hok.sizeOf, Result.andThen_ok, Sem.run_pure, valueOf, hd]
    congr 2
    apply Array.ext'
    rw [Array.toList_extract, hc]
    simp [List.extract]
  · obtain ⟨v, rfl⟩ := List.length_eq_one_iff.1 (h1 (by simpa using ha))
    have : c[pre.length]? = some v := by simpa using all2_drop_get (c := c) (pre := pre) (mid := [v]) (post := post) hc 0 rfl
    simp [ha, this, valueOf]

theorem hd?_inv {T : Tbl} {size off : Nat} {f : Nat × TypeId} {u : Und} (h : hd? T size off f = some u) : f.1 = off ∧ ∃ d, T f.2 = some d ∧ d.und = u ∧ d.size = size := by
  unfold hd? at h
  split at h
  · rename_i d hd
    obtain ⟨h1, h2⟩ := cond_some h
    rw [Bool.and_eq_true] at h1
    cases h2
    exact ⟨Nat.eq_of_beq_eq_true h1.1, d, hd, rfl, Nat.eq_of_beq_eq_true h1.2⟩
  · cases h

/-- What fits has the type's size, and is a struct or an array just if the type is. -/
theorem seqFits_one {T : Tbl} {t : Ty} {off : Nat} {f : Nat × TypeId} (h : seqFits T t off [f] = true) : f.1 = off ∧ ∃ d, T f.2 = some d ∧ d.und.agg = t.agg ∧ d.size = t.size := by
  cases t <;> simp only [seqFits] at h <;> split at h <;> first
    | (rename_i he; obtain ⟨h1, d, h2, h3, h4⟩ := hd?_inv he; exact ⟨h1, d, h2, by rw [h3]; rfl, h4⟩)
    | cases h

theorem Ty.agg_one {t : Ty} (h : t.agg = false) : t.size = 1 := by cases t <;> first | rfl | cases h

/-- Equality of what is in order compared: of one value, and of the fields one behind the other. -/
theorem eq_sound {P : Program} {T : Tbl} (hT : TblOk P T) {h1 h2 : Heap} {S1 S2 : Fz} (w : World) : ∀ (t : Ty),
    (∀ (f : Nat × TypeId) (off d : Nat) (x y : t.den) (cs ds : List Value), seqFits T t off [f] = true → seqCmp T t [f] = true → t.Rel h1 S1 x cs → t.Rel h2 S2 y ds → t.depth < d →
      (Op.equalIn d f.2 (valueOf t.agg cs) (valueOf t.agg ds)).run P w = .ok (t.eqB x y) w) ∧
    (∀ (fs : List Field) (off d : Nat) (x y : t.den) (c c' : Array Value) (pre mid post pre' mid' post' : List Value), seqFits T t off (fs.map fun f => (f.offset, f.type)) = true → seqCmp T t (fs.map fun f => (f.offset, f.type)) = true →
      c.toList = pre ++ mid ++ post → c'.toList = pre' ++ mid' ++ post' → pre.length = off → pre'.length = off → (∀ f ∈ fs, f.name ≠ "_") → t.Rel h1 S1 x mid → t.Rel h2 S2 y mid' → t.depth < d →
      (Op.eqFields d c c' fs).run P w = .ok (t.eqB x y) w) := by
  -- the fields one behind the other: one field, from what is said of one value
  have single : ∀ (t : Ty), (∀ (f : Nat × TypeId) (off d : Nat) (x y : t.den) (cs ds : List Value), seqFits T t off [f] = true → seqCmp T t [f] = true → t.Rel h1 S1 x cs → t.Rel h2 S2 y ds → t.depth < d →
      (Op.equalIn d f.2 (valueOf t.agg cs) (valueOf t.agg ds)).run P w = .ok (t.eqB x y) w) →
    ∀ (f : Field) (off d : Nat) (x y : t.den) (c c' : Array Value) (pre mid post pre' mid' post' : List Value) (rest : List Field), seqFits T t off [(f.offset, f.type)] = true → seqCmp T t [(f.offset, f.type)] = true →
      c.toList = pre ++ mid ++ post → c'.toList = pre' ++ mid' ++ post' → pre.length = off → pre'.length = off → f.name ≠ "_" → t.Rel h1 S1 x mid → t.Rel h2 S2 y mid' → t.depth < d →
      (Op.eqFields d c c' (f :: rest)).run P w = if t.eqB x y then (Op.eqFields d c c' rest).run P w else .ok false w := by
    intro t H f off d x y c c' pre mid post pre' mid' post' rest hf hc e1 e2 hp hp' hn r1 r2 hd
    obtain ⟨ho, df, hdf, hag, hsz⟩ := seqFits_one hf
    have l1 := Ty.Rel.length _ _ _ r1
    have l2 := Ty.Rel.length _ _ _ r2
    have p1 := part_at hT hdf (w := w) e1 (by rw [hsz, l1]) (fun ha => by rw [l1]; exact Ty.agg_one (hag ▸ ha))
    have p2 := part_at hT hdf (w := w) e2 (by rw [hsz, l2]) (fun ha => by rw [l2]; exact Ty.agg_one (hag ▸ ha))
    simp only at ho
    rw [hp, ← ho] at p1
    rw [hp', ← ho] at p2
    have h3 := H (f.offset, f.type) off d x y mid mid' hf hc r1 r2 hd
    rw [← hag] at h3
    simp only at h3
    simp only [Op.eqFields, hn, ne_eq, not_false_eq_true, if_true, Sem.run_bind, p1, p2, h3, Result.andThen_ok]
    cases t.eqB x y <;> simp
  -- a type that is no pair is one field
  have alone : ∀ (t : Ty), (∀ a b, t ≠ .pair a b) → (∀ (f : Nat × TypeId) (off d : Nat) (x y : t.den) (cs ds : List Value), seqFits T t off [f] = true → seqCmp T t [f] = true → t.Rel h1 S1 x cs → t.Rel h2 S2 y ds → t.depth < d →
      (Op.equalIn d f.2 (valueOf t.agg cs) (valueOf t.agg ds)).run P w = .ok (t.eqB x y) w) →
    ∀ (fs : List Field) (off d : Nat) (x y : t.den) (c c' : Array Value) (pre mid post pre' mid' post' : List Value), seqFits T t off (fs.map fun f => (f.offset, f.type)) = true → seqCmp T t (fs.map fun f => (f.offset, f.type)) = true →
      c.toList = pre ++ mid ++ post → c'.toList = pre' ++ mid' ++ post' → pre.length = off → pre'.length = off → (∀ f ∈ fs, f.name ≠ "_") → t.Rel h1 S1 x mid → t.Rel h2 S2 y mid' → t.depth < d →
      (Op.eqFields d c c' fs).run P w = .ok (t.eqB x y) w := by
    intro t hne H fs off d x y c c' pre mid post pre' mid' post' hf hc e1 e2 hp hp' hn r1 r2 hd
    match fs with
    | [] => cases t <;> cases hf
    | [f] =>
      rw [single t H f off d x y c c' pre mid post pre' mid' post' [] hf hc e1 e2 hp hp' (hn f (by simp)) r1 r2 hd]
      cases t.eqB x y <;> simp [Op.eqFields]
    | f :: g :: rest => cases t <;> first | exact absurd rfl (hne _ _) | cases hf
  have noDepth : ∀ {t : Ty} {d : Nat}, t.depth < d → ∃ d', d = d' + 1 := fun {t d} h => ⟨d - 1, by omega⟩
  intro t
  induction t with
  | int k =>
    have one : ∀ (f : Nat × TypeId) (off d : Nat) (x y : (Ty.int k).den) (cs ds : List Value), seqFits T (.int k) off [f] = true → seqCmp T (.int k) [f] = true → (Ty.int k).Rel h1 S1 x cs → (Ty.int k).Rel h2 S2 y ds → (Ty.int k).depth < d →
        (Op.equalIn d f.2 (valueOf (Ty.int k).agg cs) (valueOf (Ty.int k).agg ds)).run P w = .ok ((Ty.int k).eqB x y) w := by
      rintro f off d x y _ _ hf _ rfl rfl hd
      obtain ⟨d, rfl⟩ := noDepth hd
      simp only [seqFits] at hf
      split at hf
      · rename_i k' he
        obtain ⟨_, dd, h3, h4, _⟩ := hd?_inv he
        have hu := (hT _ _ h3).und
        rw [h4] at hu
        have := run_equalIn_int w d f.2 k k' x y hu
        exact this
      · cases hf
    exact ⟨one, alone _ (fun _ _ e => by cases e) one⟩
  | bool =>
    have one : ∀ (f : Nat × TypeId) (off d : Nat) (x y : Ty.bool.den) (cs ds : List Value), seqFits T .bool off [f] = true → seqCmp T .bool [f] = true → Ty.bool.Rel h1 S1 x cs → Ty.bool.Rel h2 S2 y ds → Ty.bool.depth < d →
        (Op.equalIn d f.2 (valueOf Ty.bool.agg cs) (valueOf Ty.bool.agg ds)).run P w = .ok (Ty.bool.eqB x y) w := by
      rintro f off d x y _ _ hf _ rfl rfl hd
      obtain ⟨d, rfl⟩ := noDepth hd
      simp only [seqFits] at hf
      split at hf
      · rename_i he
        obtain ⟨_, dd, h3, h4, _⟩ := hd?_inv he
        have hu := (hT _ _ h3).und
        rw [h4] at hu
        exact run_equalIn_bool' w d f.2 x y hu
      · cases hf
    exact ⟨one, alone _ (fun _ _ e => by cases e) one⟩
  | str =>
    have one : ∀ (f : Nat × TypeId) (off d : Nat) (x y : Ty.str.den) (cs ds : List Value), seqFits T .str off [f] = true → seqCmp T .str [f] = true → Ty.str.Rel h1 S1 x cs → Ty.str.Rel h2 S2 y ds → Ty.str.depth < d →
        (Op.equalIn d f.2 (valueOf Ty.str.agg cs) (valueOf Ty.str.agg ds)).run P w = .ok (Ty.str.eqB x y) w := by
      rintro f off d x y _ _ hf _ rfl rfl hd
      obtain ⟨d, rfl⟩ := noDepth hd
      simp only [seqFits] at hf
      split at hf
      · rename_i he
        obtain ⟨_, dd, h3, h4, _⟩ := hd?_inv he
        have hu := (hT _ _ h3).und
        rw [h4] at hu
        exact run_equalIn_string w d f.2 x y hu
      · cases hf
    exact ⟨one, alone _ (fun _ _ e => by cases e) one⟩
  | unit =>
    have one : ∀ (f : Nat × TypeId) (off d : Nat) (x y : Ty.unit.den) (cs ds : List Value), seqFits T .unit off [f] = true → seqCmp T .unit [f] = true → Ty.unit.Rel h1 S1 x cs → Ty.unit.Rel h2 S2 y ds → Ty.unit.depth < d →
        (Op.equalIn d f.2 (valueOf Ty.unit.agg cs) (valueOf Ty.unit.agg ds)).run P w = .ok (Ty.unit.eqB x y) w := by
      rintro f off d x y _ _ hf hc rfl rfl hd
      obtain ⟨d, rfl⟩ := noDepth hd
      simp only [seqCmp] at hc
      split at hc
      · rename_i hd2
        obtain ⟨fields, hu, hfl, hnm⟩ := (show UndOk P f.2 (.struct []) from (hT _ _ hd2).und)
        have hpl := (hT _ _ hd2).plain rfl
        have hfo : P.fieldsOf f.2 = fields := by simp [Program.fieldsOf, hu]
        have := run_equalIn_struct w d f.2 #[] #[] (by rw [hfo]; exact hu) hpl.1
        rw [hfo] at this
        have hnil : fields.toList = [] := by simpa using hfl
        rw [hnil] at this
        simpa [valueOf, Ty.agg, Op.eqFields, Ty.eqB] using this
      · cases hc
    exact ⟨one, alone _ (fun _ _ e => by cases e) one⟩
  | one t ih =>
    have one : ∀ (f : Nat × TypeId) (off d : Nat) (x y : (Ty.one t).den) (cs ds : List Value), seqFits T (.one t) off [f] = true → seqCmp T (.one t) [f] = true → (Ty.one t).Rel h1 S1 x cs → (Ty.one t).Rel h2 S2 y ds → (Ty.one t).depth < d →
        (Op.equalIn d f.2 (valueOf (Ty.one t).agg cs) (valueOf (Ty.one t).agg ds)).run P w = .ok ((Ty.one t).eqB x y) w := by
      intro f off d x y cs ds hf hc r1 r2 hd
      obtain ⟨d, rfl⟩ := noDepth hd
      simp only [seqCmp] at hc
      split at hc
      · rename_i g sz by_ z hd2
        obtain ⟨fields, hu, hfl, hnm⟩ := (show UndOk P f.2 (.struct [g]) from (hT _ _ hd2).und)
        have hpl := (hT _ _ hd2).plain rfl
        have hfo : P.fieldsOf f.2 = fields := by simp [Program.fieldsOf, hu]
        have := run_equalIn_struct w d f.2 cs.toArray ds.toArray (by rw [hfo]; exact hu) hpl.1
        rw [hfo] at this
        simp only [seqFits] at hf
        split at hf
        · rename_i g' he
          obtain ⟨_, dd, h3, h4, _⟩ := hd?_inv he
          rw [hd2] at h3; cases h3; cases h4
          rw [show valueOf (Ty.one t).agg cs = .agg cs.toArray from rfl, show valueOf (Ty.one t).agg ds = .agg ds.toArray from rfl, this]
          exact ih.2 fields.toList 0 d x y cs.toArray ds.toArray [] cs [] [] ds [] (by rw [hfl]; exact hf) (by rw [hfl]; exact hc) (by simp) (by simp) rfl rfl hnm r1 r2 (by simp only [Ty.depth] at hd; omega)
        · cases hf
      · cases hc
    exact ⟨one, alone _ (fun _ _ e => by cases e) one⟩
  | pair ta tb iha ihb =>
    have seq2 : ∀ (f g : Field) (fs : List Field) (off d : Nat) (x y : (Ty.pair ta tb).den) (c c' : Array Value) (pre mid post pre' mid' post' : List Value), (seqFits T ta off [(f.offset, f.type)] && seqFits T tb (off + ta.size) ((g :: fs).map fun f => (f.offset, f.type))) = true →
        (seqCmp T ta [(f.offset, f.type)] && seqCmp T tb ((g :: fs).map fun f => (f.offset, f.type))) = true → c.toList = pre ++ mid ++ post → c'.toList = pre' ++ mid' ++ post' → pre.length = off → pre'.length = off → (∀ h ∈ f :: g :: fs, h.name ≠ "_") →
        (Ty.pair ta tb).Rel h1 S1 x mid → (Ty.pair ta tb).Rel h2 S2 y mid' → (Ty.pair ta tb).depth ≤ d + 1 → (Op.eqFields d c c' (f :: g :: fs)).run P w = .ok ((Ty.pair ta tb).eqB x y) w := by
      rintro f g fs off d x y c c' pre mid post pre' mid' post' hf hc e1 e2 hp hp' hn ⟨m1, m2, rfl, ra, rb⟩ ⟨n1, n2, rfl, sa, sb⟩ hd
      rw [Bool.and_eq_true] at hf hc
      simp only [Ty.depth] at hd
      rw [single ta iha.1 f off d x.1 y.1 c c' pre m1 (m2 ++ post) pre' n1 (n2 ++ post') _ hf.1 hc.1 (by rw [e1]; simp) (by rw [e2]; simp) hp hp' (hn f (by simp)) ra sa (by omega)]
      have l1 := Ty.Rel.length _ _ _ ra
      have l2 := Ty.Rel.length _ _ _ sa
      rw [ihb.2 (g :: fs) (off + ta.size) d x.2 y.2 c c' (pre ++ m1) m2 post (pre' ++ n1) n2 post' hf.2 hc.2 (by rw [e1]; simp) (by rw [e2]; simp) (by simp [hp, l1]) (by simp [hp', l2]) (fun h hh => hn h (List.mem_cons_of_mem _ hh)) rb sb (by omega)]
      simp only [Ty.eqB]
      cases ta.eqB x.1 y.1 <;> simp
    have one : ∀ (f : Nat × TypeId) (off d : Nat) (x y : (Ty.pair ta tb).den) (cs ds : List Value), seqFits T (.pair ta tb) off [f] = true → seqCmp T (.pair ta tb) [f] = true → (Ty.pair ta tb).Rel h1 S1 x cs → (Ty.pair ta tb).Rel h2 S2 y ds → (Ty.pair ta tb).depth < d →
        (Op.equalIn d f.2 (valueOf (Ty.pair ta tb).agg cs) (valueOf (Ty.pair ta tb).agg ds)).run P w = .ok ((Ty.pair ta tb).eqB x y) w := by
      intro f off d x y cs ds hf hc r1 r2 hd
      obtain ⟨d, rfl⟩ := noDepth hd
      simp only [seqCmp] at hc
      split at hc
      · rename_i g h fs sz by_ z hd2
        obtain ⟨fields, hu, hfl, hnm⟩ := (show UndOk P f.2 (.struct (g :: h :: fs)) from (hT _ _ hd2).und)
        have hpl := (hT _ _ hd2).plain rfl
        have hfo : P.fieldsOf f.2 = fields := by simp [Program.fieldsOf, hu]
        have := run_equalIn_struct w d f.2 cs.toArray ds.toArray (by rw [hfo]; exact hu) hpl.1
        rw [hfo] at this
        simp only [seqFits] at hf
        split at hf
        · rename_i g' h' fs' he
          obtain ⟨_, dd, h3, h4, _⟩ := hd?_inv he
          rw [hd2] at h3; cases h3; cases h4
          rw [show valueOf (Ty.pair ta tb).agg cs = .agg cs.toArray from rfl, show valueOf (Ty.pair ta tb).agg ds = .agg ds.toArray from rfl, this]
          match hfs : fields.toList with
          | [] => rw [hfs] at hfl; cases hfl
          | [f1] => rw [hfs] at hfl; cases hfl
          | f1 :: f2 :: rest =>
            rw [hfs] at hfl
            simp only [List.map_cons, List.cons.injEq] at hfl
            obtain ⟨e1, e2, e3⟩ := hfl
            refine seq2 f1 f2 rest 0 d x y cs.toArray ds.toArray [] cs [] [] ds [] ?_ ?_ (by simp) (by simp) rfl rfl (by rw [← hfs]; exact hnm) r1 r2 (by omega)
            · simp only [List.map_cons, e1, e2, e3]; simpa using hf
            · simp only [List.map_cons, e1, e2, e3]; exact hc
        · cases hf
      · cases hc
    refine ⟨one, fun fs off d x y c c' pre mid post pre' mid' post' hf hc e1 e2 hp hp' hn r1 r2 hd => ?_⟩
    match fs with
    | [] => cases hf
    | [f] =>
      rw [single _ one f off d x y c c' pre mid post pre' mid' post' [] hf hc e1 e2 hp hp' (hn f (by simp)) r1 r2 hd]
      cases (Ty.pair ta tb).eqB x y <;> simp [Op.eqFields]
    | f :: g :: rest => exact seq2 f g rest off d x y c c' pre mid post pre' mid' post' hf hc e1 e2 hp hp' hn r1 r2 (by omega)
  | arr n t ih =>
    have one : ∀ (f : Nat × TypeId) (off d : Nat) (x y : (Ty.arr n t).den) (cs ds : List Value), seqFits T (.arr n t) off [f] = true → seqCmp T (.arr n t) [f] = true → (Ty.arr n t).Rel h1 S1 x cs → (Ty.arr n t).Rel h2 S2 y ds → (Ty.arr n t).depth < d →
        (Op.equalIn d f.2 (valueOf (Ty.arr n t).agg cs) (valueOf (Ty.arr n t).agg ds)).run P w = .ok ((Ty.arr n t).eqB x y) w := by
      rintro f off d x y cs ds hf hc ⟨l1, css, rfl, A⟩ ⟨l2, dss, rfl, B⟩ hd
      obtain ⟨d, rfl⟩ := noDepth hd
      simp only [seqFits] at hf
      split at hf
      case h_2 => cases hf
      rename_i m g he
      obtain ⟨_, dd, h3, h4, _⟩ := hd?_inv he
      rw [Bool.and_eq_true] at hf
      obtain rfl := Nat.eq_of_beq_eq_true hf.1
      have hu := (hT _ _ h3).und
      rw [h4] at hu
      have hg : seqCmp T t [(0, g)] = true := by
        simp only [seqCmp] at hc
        split at hc
        · rename_i hd2; rw [hd2] at h3; cases h3; cases h4; exact hc
        · cases hc
      obtain ⟨_, de, hde, hag, hsz⟩ := seqFits_one hf.2
      obtain ⟨i, hi, hisz, _⟩ := (hT _ _ hde).info
      have hcell : P.cellsOf g = t.size := by simp only [Program.cellsOf] ; simp only at hi; rw [hi]; simp [hisz, hsz]
      rw [show valueOf (Ty.arr m t).agg css.flatten = .agg css.flatten.toArray from rfl, show valueOf (Ty.arr m t).agg dss.flatten = .agg dss.flatten.toArray from rfl]
      rw [run_equalIn_array w d css.flatten.toArray dss.flatten.toArray hu hi, hcell]
      -- element by element
      have key : ∀ (xs ys : List t.den) (cs1 ds1 : List (List Value)) (k : Nat) (pc pd : List Value), xs.length = ys.length → All2 (t.Rel h1 S1) xs cs1 → All2 (t.Rel h2 S2) ys ds1 → css.flatten = pc ++ cs1.flatten → dss.flatten = pd ++ ds1.flatten → pc.length = k * t.size → pd.length = k * t.size →
          (Op.eqItems d g t.size css.flatten.toArray dss.flatten.toArray (List.range' k xs.length)).run P w = .ok (eqList t.eqB xs ys) w := by
        intro xs
        induction xs with
        | nil =>
          intro ys cs1 ds1 k pc pd hl _ _ _ _ _ _
          cases ys with
          | nil => simp [Op.eqItems, eqList]
          | cons y ys => cases hl
        | cons x0 xs ihx =>
          intro ys cs1 ds1 k pc pd hl A1 B1 e1 e2 hp hq
          cases ys with
          | nil => cases hl
          | cons y0 ys =>
            obtain ⟨c0, cs2, rfl, ra, A2⟩ := A1.cons_inv
            obtain ⟨d0, ds2, rfl, rb, B2⟩ := B1.cons_inv
            have lc := Ty.Rel.length _ _ _ ra
            have ld := Ty.Rel.length _ _ _ rb
            have p1 := part_at hT hde (w := w) (c := css.flatten.toArray) (pre := pc) (mid := c0) (post := cs2.flatten) (by rw [e1]; simp) (by rw [hsz, lc]) (fun ha => by rw [lc]; exact Ty.agg_one (hag ▸ ha))
            have p2 := part_at hT hde (w := w) (c := dss.flatten.toArray) (pre := pd) (mid := d0) (post := ds2.flatten) (by rw [e2]; simp) (by rw [hsz, ld]) (fun ha => by rw [ld]; exact Ty.agg_one (hag ▸ ha))
            rw [hp] at p1; rw [hq] at p2
            have h5 := ih.1 (0, g) 0 d x0 y0 c0 d0 hf.2 hg ra rb (by simp only [Ty.depth] at hd; omega)
            rw [← hag] at h5
            simp only at p1 p2 h5
            have h6 := ihx ys cs2 ds2 (k + 1) (pc ++ c0) (pd ++ d0) (by simpa using hl) A2 B2 (by rw [e1]; simp) (by rw [e2]; simp) (by simp [hp, lc, Nat.succ_mul]) (by simp [hq, ld, Nat.succ_mul])
            rw [List.length_cons, List.range'_succ]
            simp only [Op.eqItems, Sem.run_bind, p1, p2, h5, Result.andThen_ok, eqList]
            cases t.eqB x0 y0
            · simp
            · simpa using h6
      have := key x y css dss 0 [] [] (l1.trans l2.symm) A B rfl rfl (by simp) (by simp)
      rw [l1] at this
      rw [List.range_eq_range']
      exact this
    exact ⟨one, alone _ (fun _ _ e => by cases e) one⟩
  | slice t ih =>
    have one : ∀ (f : Nat × TypeId) (off d : Nat) (x y : (Ty.slice t).den) (cs ds : List Value), seqFits T (.slice t) off [f] = true → seqCmp T (.slice t) [f] = true → (Ty.slice t).Rel h1 S1 x cs → (Ty.slice t).Rel h2 S2 y ds → (Ty.slice t).depth < d →
        (Op.equalIn d f.2 (valueOf (Ty.slice t).agg cs) (valueOf (Ty.slice t).agg ds)).run P w = .ok ((Ty.slice t).eqB x y) w := by
      intro f off d x y cs ds hf hc; cases hc
    exact ⟨one, alone _ (fun _ _ e => by cases e) one⟩
  | pref k =>
    have one : ∀ (f : Nat × TypeId) (off d : Nat) (x y : (Ty.pref k).den) (cs ds : List Value), seqFits T (.pref k) off [f] = true → seqCmp T (.pref k) [f] = true → (Ty.pref k).Rel h1 S1 x cs → (Ty.pref k).Rel h2 S2 y ds → (Ty.pref k).depth < d →
        (Op.equalIn d f.2 (valueOf (Ty.pref k).agg cs) (valueOf (Ty.pref k).agg ds)).run P w = .ok ((Ty.pref k).eqB x y) w := by
      intro f off d x y cs ds hf hc; cases hc
    exact ⟨one, alone _ (fun _ _ e => by cases e) one⟩
end Go.Am

/- The abstract machine, eighth part: arithmetic, comparisons, conversions, parts of values. -/
namespace Go.Am

def bitsOp (op : BinOp) (k : IntKind) (a b : Int) : Int :=
  match op with
  | .and => k.wrap (BitVec.ofInt k.bits a &&& BitVec.ofInt k.bits b).toNat
  | .or => k.wrap (BitVec.ofInt k.bits a ||| BitVec.ofInt k.bits b).toNat
  | .xor => k.wrap (BitVec.ofInt k.bits a ^^^ BitVec.ofInt k.bits b).toNat
  | _ => k.wrap (BitVec.ofInt k.bits a &&& ~~~ BitVec.ofInt k.bits b).toNat

section defs
variable {R : Type} (T : Tbl)

def binInt (op : BinOp) (kd : IntKind) (a b : Int) (k : AVal → Option R) : Option R :=
  match op with
  | .add => k (.dat true (.int kd) (kd.wrap (a + b)))
  | .sub => k (.dat true (.int kd) (kd.wrap (a - b)))
  | .mul => k (.dat true (.int kd) (kd.wrap (a * b)))
  | .quo => if b = 0 then none else k (.dat true (.int kd) (kd.wrap (a.tdiv b)))
  | .rem => if b = 0 then none else k (.dat true (.int kd) (a.tmod b))
  | .and => k (.dat true (.int kd) (bitsOp .and kd a b))
  | .or => k (.dat true (.int kd) (bitsOp .or kd a b))
  | .xor => k (.dat true (.int kd) (bitsOp .xor kd a b))
  | .andNot => k (.dat true (.int kd) (bitsOp .andNot kd a b))
  | .eql => k (.dat true .bool (decide (a = b)))
  | .neq => k (.dat true .bool (!decide (a = b)))
  | .lss => k (.dat true .bool (decide (a < b)))
  | .leq => k (.dat true .bool (decide (a ≤ b)))
  | .gtr => k (.dat true .bool (decide (b < a)))
  | .geq => k (.dat true .bool (decide (b ≤ a)))
  | _ => none

def shiftInt (op : BinOp) (kd : IntKind) (a b : Int) (k : AVal → Option R) : Option R :=
  match op with
  | .shl => if b < 0 then none else k (.dat true (.int kd) (kd.wrap (a * 2 ^ (min b.toNat kd.bits))))
  | .shr => if b < 0 then none else k (.dat true (.int kd) (a.fdiv (2 ^ (min b.toNat kd.bits))))
  | _ => none

def strLess (a b : ByteArray) : Bool := Op.bytesLess a.toList b.toList
def strEq (a b : ByteArray) : Bool := a.toList == b.toList

def binStr (op : BinOp) (a b : ByteArray) (k : AVal → Option R) : Option R :=
  match op with
  | .add => if a.size + b.size ≤ 9223372036854775807 then k (.dat true .str (a ++ b)) else none
  | .eql => k (.dat true .bool (strEq a b))
  | .neq => k (.dat true .bool (!strEq a b))
  | .lss => k (.dat true .bool (strLess a b))
  | .leq => k (.dat true .bool (strLess a b || strEq a b))
  | .gtr => k (.dat true .bool (!(strLess a b || strEq a b)))
  | .geq => k (.dat true .bool (!strLess a b))
  | _ => none

def binEq (op : BinOp) (r : Bool) (k : AVal → Option R) : Option R :=
  match op with
  | .eql => k (.dat true .bool r)
  | .neq => k (.dat true .bool (!r))
  | _ => none

/-- Is the object of a reference there? -/
def thereK (get : Nat → Option AObj) (r g : Nat) (k : Option R) : Option R :=
  match get r with
  | some (.box _) => k
  | some (.arr g' _ _) => bif Nat.beq g g' then k else none
  | _ => none

def undOf (T : Tbl) (t : TypeId) : Und := match T t with | some d => d.und | none => .other

def actBin (get : Nat → Option AObj) (op : BinOp) (t : TypeId) (x y : AVal) (k : AVal → Option R) : Option R :=
  match x, y with
  | .dat _ (.int kx) a, .dat _ (.int ky) b => match op with
    | .shl => shiftInt .shl kx a b k
    | .shr => shiftInt .shr kx a b k
    | op => if kx = ky then binInt op kx a b k else none
  | .dat _ .bool a, .dat _ .bool b => match undOf T t with
    | .bool => binEq op (a == b) k
    | _ => none
  | .dat _ .str a, .dat _ .str b => binStr op a b k
  | .dat _ τ a, .dat _ τ' b => if h : τ' = τ then (bif τ.agg && fits T τ t && seqCmp T τ [(0, t)] && Nat.ble τ.depth 9999 then binEq op (τ.eqB a (h ▸ b)) k else none) else none
  | .nilp, .nilp => match undOf T t with
    | .ptr _ => binEq op true k
    | _ => none
  | .ptr r g _, .nilp => match undOf T t with
    | .ptr _ => thereK get r g (binEq op false k)
    | _ => none
  | .nilp, .ptr r g _ => match undOf T t with
    | .ptr _ => thereK get r g (binEq op false k)
    | _ => none
  | .ref _ _ _, .nilp => match undOf T t with
    | .ptr _ => binEq op false k
    | _ => none
  | _, _ => none

def actUn (op : UnOp) (x : AVal) (k : AVal → Option R) : Option R :=
  match op, x with
  | .not, .dat _ .bool b => k (.dat true .bool (!b))
  | .neg, .dat _ (.int kd) n => k (.dat true (.int kd) (kd.wrap (0 - n)))
  | .xor, .dat _ (.int kd) n => k (.dat true (.int kd) (bitsOp .xor kd (if kd.signed then -1 else kd.max) n))
  | _, _ => none

def actConv (src dst : TypeId) (x : AVal) (k : AVal → Option R) : Option R :=
  match T src, T dst, x with
  | some _, some { und := .int kd, .. }, .dat _ (.int _) n => k (.dat true (.int kd) (kd.wrap n))
  | _, _, _ => none
end defs

section
variable {P : Program} {T : Tbl} {ρ : Operand → Option AVal} {get : Nat → Option AObj} {a : Act} {w : World} {x : Ctx} {R : Type}

theorem V_int {p : Bool} {k : IntKind} {n : Int} {u : Value} : (AVal.dat p (.int k) n).V x u ↔ u = .int k n := by
  show ([u] = [.int k n]) ↔ _; simp
theorem V_bool {p : Bool} {b : Bool} {u : Value} : (AVal.dat p .bool b).V x u ↔ u = .bool b := by
  show ([u] = [.bool b]) ↔ _; simp
theorem V_str {p : Bool} {s : ByteArray} {u : Value} : (AVal.dat p .str s).V x u ↔ u = .string s := by
  show ([u] = [.string s]) ↔ _; simp
theorem V_nilp {u : Value} : AVal.nilp.V x u ↔ u = .pointer none := by
  show ([u] = [.pointer none]) ↔ _; simp

theorem undOf_ok (hT : TblOk P T) {t : TypeId} {u : Und} (h : undOf T t = u) (hu : u ≠ .other) : UndOk P t u := by
  unfold undOf at h
  split at h
  · rename_i d hd; rw [← h]; exact (hT t d hd).und
  · exact absurd h.symm hu

/-- A pointer to what is there is none that is nil. -/
theorem there_some (M : Mem x) (hobj : ∀ r ob, get r = some ob → x.σ[r]? = some ob) {r g : Nat} {p : Path} {u : Value} (hv : (AVal.ptr r g p).V x u) {k : Option R} {z : R} (hk : thereK get r g k = some z) :
    k = some z ∧ ∃ ad, u = .pointer (some ad) := by
  unfold thereK at hk
  obtain ⟨c0, hc0, _, hr⟩ := (show (AVal.ptr r g p).C x [u] from hv)
  simp only [List.cons.injEq, and_true] at hc0
  subst hc0
  unfold PtrRel at hr
  split at hk
  · rename_i b hg
    rw [obj_of_get M (hobj r _ hg)] at hr
    obtain ⟨a, s, o, _, _, e⟩ := hr
    exact ⟨hk, _, e⟩
  · rename_i g' τ xs hg
    rw [obj_of_get M (hobj r _ hg)] at hr
    obtain ⟨hgg, hk⟩ := cond_some hk
    obtain ⟨a, s, o, _, _, e⟩ := hr.2 (Nat.eq_of_beq_eq_true hgg)
    exact ⟨hk, _, e⟩
  · cases hk

theorem binEq_inv {op : BinOp} {r : Bool} {k : AVal → Option R} {z : R} (h : binEq op r k = some z) : (op = .eql ∧ k (.dat true .bool r) = some z) ∨ (op = .neq ∧ k (.dat true .bool (!r)) = some z) := by
  cases op <;> first | exact .inl ⟨rfl, h⟩ | exact .inr ⟨rfl, h⟩ | cases h

theorem run_guard_int {op : BinOp} {t : TypeId} {xo yo : Operand} {k k' : IntKind} {m n : Int} : (eqGuard op t xo yo (.int k m) (.int k' n)).run P w = .ok () w := by cases op <;> rfl
theorem run_guard_bool {op : BinOp} {t : TypeId} {xo yo : Operand} {m n : Bool} : (eqGuard op t xo yo (.bool m) (.bool n)).run P w = .ok () w := by cases op <;> rfl
theorem run_guard_str {op : BinOp} {t : TypeId} {xo yo : Operand} {m n : ByteArray} : (eqGuard op t xo yo (.string m) (.string n)).run P w = .ok () w := by cases op <;> rfl
theorem run_guard_ptr {op : BinOp} {t : TypeId} {xo yo : Operand} {m n : Option Addr} : (eqGuard op t xo yo (.pointer m) (.pointer n)).run P w = .ok () w := by cases op <;> rfl

/-- A binary operation that comes to a value. -/
theorem bin_ok (H : Meets P T ρ get a w x) {o : Oper} {op : BinOp} {t yt : TypeId} {xo yo : Operand} (ho : o.op = .binOp op t xo yo yt) {u v r : Value} (hu : a.eval xo = u) (hv : a.eval yo = v)
    (hg : (eqGuard op t xo yo u v).run P w = .ok () w) (hb : (binOp op t u v).run P w = .ok r w) {av : AVal} (hr : av.V x r) {k : AVal → Ups → Option R} {z : R} (hk : k av [] = some z) :
    ∃ u ups, k u ups = some z ∧ ActOk P o a w x u ups :=
  ⟨_, _, hk, ActOk.value H.mem H.h (by simp only [execOp, ho, hu, hv, Sem.run_bind, hg, Result.andThen_ok, hb, Sem.run_pure]) hr⟩

theorem binInt_ok (H : Meets P T ρ get a w x) {o : Oper} {op : BinOp} {t yt : TypeId} {xo yo : Operand} (ho : o.op = .binOp op t xo yo yt) {kd : IntKind} {m n : Int} (hu : a.eval xo = .int kd m) (hv : a.eval yo = .int kd n)
    {k : AVal → Ups → Option R} {z : R} (hk : binInt op kd m n (fun v => k v []) = some z) : ∃ u ups, k u ups = some z ∧ ActOk P o a w x u ups := by
  have go : ∀ (r : Value) (av : AVal), (binOp op t (.int kd m) (.int kd n)).run P w = .ok r w → av.V x r → k av [] = some z → ∃ u ups, k u ups = some z ∧ ActOk P o a w x u ups :=
    fun r av hb hr hk => bin_ok H ho hu hv run_guard_int hb hr hk
  cases op <;> simp only [binInt] at hk
  case add => exact go _ _ (by simp [binOp, Op.intArith]) (V_int.2 rfl) hk
  case sub => exact go _ _ (by simp [binOp, Op.intArith]) (V_int.2 rfl) hk
  case mul => exact go _ _ (by simp [binOp, Op.intArith]) (V_int.2 rfl) hk
  case quo =>
    split at hk
    · cases hk
    · rename_i h0; exact go _ _ (by simp [binOp, Op.intDiv, h0]) (V_int.2 rfl) hk
  case rem =>
    split at hk
    · cases hk
    · rename_i h0; exact go _ _ (by simp [binOp, Op.intDiv, h0]) (V_int.2 rfl) hk
  case and => exact go (.int kd (bitsOp .and kd m n)) _ (by simp only [binOp]; rw [if_neg (by simp)]; rfl) (V_int.2 rfl) hk
  case or => exact go (.int kd (bitsOp .or kd m n)) _ (by simp only [binOp]; rw [if_neg (by simp)]; rfl) (V_int.2 rfl) hk
  case xor => exact go (.int kd (bitsOp .xor kd m n)) _ (by simp only [binOp]; rw [if_neg (by simp)]; rfl) (V_int.2 rfl) hk
  case andNot => exact go (.int kd (bitsOp .andNot kd m n)) _ (by simp only [binOp]; rw [if_neg (by simp)]; rfl) (V_int.2 rfl) hk
  case shl => cases hk
  case shr => cases hk
  case eql => exact go (.bool (m == n)) _ (by simp [binOp, Op.intCmp]) (V_bool.2 rfl) hk
  case neq => exact go (.bool (m != n)) _ (by simp [binOp, Op.intCmp]) (V_bool.2 rfl) hk
  case lss => exact go (.bool (decide (m < n))) _ (by simp [binOp, Op.intCmp]) (V_bool.2 rfl) hk
  case leq => exact go (.bool (decide (m ≤ n))) _ (by simp [binOp, Op.intCmp]) (V_bool.2 rfl) hk
  case gtr => exact go (.bool (decide (m > n))) _ (by simp [binOp, Op.intCmp]) (V_bool.2 rfl) hk
  case geq => exact go (.bool (decide (m ≥ n))) _ (by simp [binOp, Op.intCmp]) (V_bool.2 rfl) hk

theorem binStr_ok (H : Meets P T ρ get a w x) {o : Oper} {op : BinOp} {t yt : TypeId} {xo yo : Operand} (ho : o.op = .binOp op t xo yo yt) {m n : ByteArray} (hu : a.eval xo = .string m) (hv : a.eval yo = .string n)
    {k : AVal → Ups → Option R} {z : R} (hk : binStr op m n (fun v => k v []) = some z) : ∃ u ups, k u ups = some z ∧ ActOk P o a w x u ups := by
  have go : ∀ (r : Value) (av : AVal), (binOp op t (.string m) (.string n)).run P w = .ok r w → av.V x r → k av [] = some z → ∃ u ups, k u ups = some z ∧ ActOk P o a w x u ups :=
    fun r av hb hr hk => bin_ok H ho hu hv run_guard_str hb hr hk
  cases op <;> simp only [binStr] at hk
  case add =>
    split at hk
    · rename_i h0
      refine go (.string (m ++ n)) _ ?_ (V_str.2 rfl) hk
      simp only [binOp, Op.stringOp]
      rw [if_neg (by simp only [IntKind.max, IntKind.signed, IntKind.bits, if_true]; omega)]
      rfl
    · cases hk
  case eql => exact go (.bool (strEq m n)) _ (by simp [binOp, Op.stringOp, strEq]) (V_bool.2 rfl) hk
  case neq => exact go (.bool (!strEq m n)) _ (by simp [binOp, Op.stringOp, strEq]) (V_bool.2 rfl) hk
  case lss => exact go (.bool (strLess m n)) _ (by simp [binOp, Op.stringOp, strLess]) (V_bool.2 rfl) hk
  case leq => exact go (.bool (strLess m n || strEq m n)) _ (by simp [binOp, Op.stringOp, strEq, strLess]) (V_bool.2 rfl) hk
  case gtr => exact go (.bool (!(strLess m n || strEq m n))) _ (by simp [binOp, Op.stringOp, strEq, strLess]) (V_bool.2 rfl) hk
  case geq => exact go (.bool (!strLess m n)) _ (by simp [binOp, Op.stringOp, strLess]) (V_bool.2 rfl) hk
  all_goals cases hk

/-- '==' or '!=', where the model's equality says r. -/
theorem binEq_ok (H : Meets P T ρ get a w x) {o : Oper} {op : BinOp} {t yt : TypeId} {xo yo : Operand} (ho : o.op = .binOp op t xo yo yt) {u v : Value} {r : Bool} (hu : a.eval xo = u) (hv : a.eval yo = v)
    (hg : (eqGuard op t xo yo u v).run P w = .ok () w) (h1 : (binOp .eql t u v).run P w = .ok (.bool r) w) (h2 : (binOp .neq t u v).run P w = .ok (.bool (!r)) w)
    {k : AVal → Ups → Option R} {z : R} (hk : binEq op r (fun v => k v []) = some z) : ∃ u ups, k u ups = some z ∧ ActOk P o a w x u ups := by
  rcases binEq_inv hk with ⟨rfl, hk⟩ | ⟨rfl, hk⟩
  · exact bin_ok H ho hu hv hg h1 (V_bool.2 rfl) hk
  · exact bin_ok H ho hu hv hg h2 (V_bool.2 rfl) hk

theorem eqIn_ptr_nil (d : Nat) {t e : TypeId} (h : P.underlying t = some (.pointer e)) : (Op.equalIn (d + 1) t (.pointer none) (.pointer none)).run P w = .ok true w := by simp [Op.equalIn, run_underlying h]
theorem eqIn_ptr_some (d : Nat) {t e : TypeId} (ad : Addr) (h : P.underlying t = some (.pointer e)) : (Op.equalIn (d + 1) t (.pointer (some ad)) (.pointer none)).run P w = .ok false w := by simp [Op.equalIn, run_underlying h]
theorem eqIn_nil_some (d : Nat) {t e : TypeId} (ad : Addr) (h : P.underlying t = some (.pointer e)) : (Op.equalIn (d + 1) t (.pointer none) (.pointer (some ad))).run P w = .ok false w := by simp [Op.equalIn, run_underlying h]

theorem V_dat {p : Bool} {t : Ty} {d : t.den} {u : Value} (h : (AVal.dat p t d).V x u) : ∃ cs, t.Rel x.h (x.F p) d cs ∧ u = valueOf t.agg cs := by
  obtain ⟨h1, h2, h3⟩ := V_inv (v := .dat p t d) rfl h
  refine ⟨_, h1, ?_⟩
  by_cases ha : t.agg = true
  · obtain ⟨c, rfl⟩ := h2 ha
    simp [valueOf, ha, Value.cells]
  · rw [h3 (by simpa [AVal.agg] using ha)]; simp [valueOf, ha]

theorem actBin_ok (H : Meets P T ρ get a w x) {o : Oper} {op : BinOp} {t yt : TypeId} {xo yo : Operand} (ho : o.op = .binOp op t xo yo yt) {u v : AVal} (hu : u.V x (a.eval xo)) (hv : v.V x (a.eval yo))
    {k : AVal → Ups → Option R} {z : R} (hk : actBin T get op t u v (fun v => k v []) = some z) : ∃ u ups, k u ups = some z ∧ ActOk P o a w x u ups := by
  unfold actBin at hk
  split at hk
  · rename_i kx m _ ky n
    have e1 := V_int.1 hu
    have e2 := V_int.1 hv
    split at hk
    · simp only [shiftInt] at hk
      split at hk
      · cases hk
      · rename_i h0; exact bin_ok H ho e1 e2 run_guard_int (by simp [binOp, Op.shift, h0]) (V_int.2 rfl) hk
    · simp only [shiftInt] at hk
      split at hk
      · cases hk
      · rename_i h0; exact bin_ok H ho e1 e2 run_guard_int (by simp [binOp, Op.shift, h0]) (V_int.2 rfl) hk
    · split at hk
      · rename_i hkk; subst hkk; exact binInt_ok H ho e1 e2 hk
      · cases hk
  · rename_i m _ n
    split at hk
    · rename_i hu2
      have hb := undOf_ok H.tbl hu2 (by simp)
      have := run_equal_bool (w := w) (P := P) t m n hb
      exact binEq_ok H ho (V_bool.1 hu) (V_bool.1 hv) run_guard_bool (by simp [binOp, this]) (by simp [binOp, this]) hk
    · cases hk
  · exact binStr_ok H ho (V_str.1 hu) (V_str.1 hv) hk
  · rename_i τ m _ τ' n _ _ _
    split at hk
    · rename_i hτ
      subst hτ
      obtain ⟨hc, hk⟩ := cond_some hk
      rw [Bool.and_eq_true, Bool.and_eq_true, Bool.and_eq_true] at hc
      obtain ⟨⟨⟨hag, hf⟩, hcm⟩, hdp⟩ := hc
      obtain ⟨cs, r1, e1⟩ := V_dat hu
      obtain ⟨ds, r2, e2⟩ := V_dat hv
      have heq := (eq_sound H.tbl w τ').1 (0, t) 0 10000 m n cs ds hf hcm r1 r2 (by have := Nat.le_of_ble_eq_true hdp; omega)
      simp only [valueOf, hag, if_true] at e1 e2 heq
      have hpl : P.eqGuardType P.depth t = false := by
        cases τ' <;> simp only [Ty.agg] at hag <;> try cases hag
        all_goals
          simp only [seqCmp] at hcm
          split at hcm
          · rename_i hd; exact ((H.tbl _ _ hd).plain rfl).2
          · cases hcm
      refine binEq_ok H ho e1 e2 (run_eqGuard_agg w op t xo yo _ _ hpl) ?_ ?_ hk
      · rw [run_eql_struct, heq]; rfl
      · rw [run_neq_struct, heq]; rfl
    · cases hk
  · split at hk
    · rename_i e hu2
      have hb := undOf_ok H.tbl hu2 (by simp)
      have he : (Op.equal t (.pointer none) (.pointer none)).run P w = .ok true w := eqIn_ptr_nil 9999 hb
      exact binEq_ok H ho (V_nilp.1 hu) (V_nilp.1 hv) run_guard_ptr (by simp [binOp, he]) (by simp [binOp, he]) hk
    · cases hk
  · split at hk
    · rename_i e hu2
      have hb := undOf_ok H.tbl hu2 (by simp)
      obtain ⟨hk, ad, e1⟩ := there_some H.mem H.obj hu hk
      have he : (Op.equal t (.pointer (some ad)) (.pointer none)).run P w = .ok false w := eqIn_ptr_some 9999 ad hb
      exact binEq_ok H ho e1 (V_nilp.1 hv) run_guard_ptr (by simp [binOp, he]) (by simp [binOp, he]) hk
    · cases hk
  · split at hk
    · rename_i e hu2
      have hb := undOf_ok H.tbl hu2 (by simp)
      obtain ⟨hk, ad, e1⟩ := there_some H.mem H.obj hv hk
      have he : (Op.equal t (.pointer none) (.pointer (some ad))).run P w = .ok false w := eqIn_nil_some 9999 ad hb
      exact binEq_ok H ho (V_nilp.1 hu) e1 run_guard_ptr (by simp [binOp, he]) (by simp [binOp, he]) hk
    · cases hk
  · split at hk
    · rename_i e hu2
      have hb := undOf_ok H.tbl hu2 (by simp)
      obtain ⟨b, of, ds, e1, _⟩ := (show (AVal.ref _ _ _).C x [a.eval xo] from hu)
      simp only [List.cons.injEq, and_true] at e1
      have he : ∀ ad, (Op.equal t (.pointer (some ad)) (.pointer none)).run P w = .ok false w := fun ad => eqIn_ptr_some 9999 ad hb
      exact binEq_ok H ho e1 (V_nilp.1 hv) run_guard_ptr (by simp [binOp, he]) (by simp [binOp, he]) hk
    · cases hk
  · cases hk

theorem actUn_ok (H : Meets P T ρ get a w x) {o : Oper} {op : UnOp} {t : TypeId} {xo : Operand} (ho : o.op = .unOp op t xo) {u : AVal} (hu : u.V x (a.eval xo))
    {k : AVal → Ups → Option R} {z : R} (hk : actUn op u (fun v => k v []) = some z) : ∃ u ups, k u ups = some z ∧ ActOk P o a w x u ups := by
  unfold actUn at hk
  split at hk
  · have e := V_bool.1 hu
    exact ⟨_, _, hk, ActOk.value H.mem H.h (by simp [execOp, ho, e, Op.unary]) (V_bool.2 rfl)⟩
  · have e := V_int.1 hu
    exact ⟨_, _, hk, ActOk.value H.mem H.h (by simp [execOp, ho, e, Op.unary, Op.intArith]) (V_int.2 rfl)⟩
  · have e := V_int.1 hu
    exact ⟨_, _, hk, ActOk.value H.mem H.h (by simp only [execOp, ho, e, Op.unary, Op.intBits, Sem.run_bind]; rfl) (V_int.2 rfl)⟩
  · cases hk

theorem actConv_ok (H : Meets P T ρ get a w x) {o : Oper} {src dst : TypeId} {xo : Operand} (ho : o.op = .convert src dst xo) {u : AVal} (hu : u.V x (a.eval xo))
    {k : AVal → Ups → Option R} {z : R} (hk : actConv T src dst u (fun v => k v []) = some z) : ∃ u ups, k u ups = some z ∧ ActOk P o a w x u ups := by
  unfold actConv at hk
  split at hk
  · rename_i d kd sz by_ zr cm _ kd' n hs hd
    have e := V_int.1 hu
    have h2 := (H.tbl _ _ hd).und
    have hs' : ∃ e, P.underlying src = some e := by
      have := (H.tbl _ _ hs).und
      cases hq : d.und <;> rw [hq] at this
      case struct => obtain ⟨f, h, _⟩ := this; exact ⟨_, h⟩
      case other => obtain ⟨f, h, _⟩ := this; exact ⟨_, h⟩
      all_goals exact ⟨_, this⟩
    obtain ⟨e', hs'⟩ := hs'
    refine ⟨_, _, hk, ActOk.value H.mem H.h (u := .int kd (kd.wrap n)) ?_ (V_int.2 rfl)⟩
    simp [execOp, ho, e, convert, run_underlying hs', run_underlying (show P.underlying dst = _ from h2), Conv.intToInt]
  · cases hk
end
end Go.Am

/- The abstract machine, ninth part: parts of values, elements, literals, lengths. -/
namespace Go.Am

/-- A number. -/
def AVal.int? : AVal → Option Int
  | .dat _ (.int _) n => some n
  | _ => none

def byteAt (s : ByteArray) (i : Nat) : Int := ((s.data[i]?.getD 0).toNat : Int)

section defs
variable {R : Type} (T : Tbl)

def actField (t : TypeId) (v : AVal) (j : Nat) (k : AVal → Option R) : Option R :=
  match T t with
  | some { und := .struct fs, .. } => match fs[j]? with
    | some (off, ft) => match T ft with
      | some fd => bif v.agg && v.flat && v.sh.leads (pairPath fs.length j) off fd.size then
          v.getK (pairPath fs.length j) fun u => bif fd.isAs u then k u else none else none
      | none => none
    | none => none
  | _ => none

def actIndex (t : TypeId) (v i : AVal) (k : AVal → Option R) : Option R :=
  match v, i.int? with
  | .dat _ .str s, some n => match undOf T t with
    | .str => if 0 ≤ n ∧ n < s.size then k (.dat true (.int .u8) (byteAt s n.toNat)) else none
    | _ => none
  | .dat q (.arr m τ) xs, some n => match undOf T t with
    | .arr m' e => match T e with
      | some ed => bif Nat.beq m m' && Nat.beq ed.size τ.size && (ed.und.agg == τ.agg) then
          (if 0 ≤ n ∧ n < m then match xs[n.toNat]? with | some y => k (.dat q τ y) | none => none else none) else none
      | none => none
    | _ => none
  | _, _ => none

def actIndexAddr (get : Nat → Option AObj) (t : TypeId) (v i : AVal) (k : AVal → Option R) : Option R :=
  match i.int? with
  | some n => match undOf T t with
    | .arr m e => match T e with
      | some ed => match v with
        | .ptr r g p => match get r with
          | some ob => match shapeOf ob g with
            | some s => match s.at p with
              | some (.arr es m', _) => bif Nat.beq m m' && Nat.beq ed.size es.size then
                  (if 0 ≤ n ∧ n < m then k (.ptr r g (p ++ [.idx n.toNat])) else none) else none
              | _ => none
            | none => none
          | none => none
        | _ => none
      | none => none
    | .slice e => match T e with
      | some ed => match v with
        | .slc r g => match get r with
          | some (.arr g' τ xs) => bif Nat.beq g g' && Nat.beq ed.size τ.size then
              (if 0 ≤ n ∧ n < xs.length then k (.ptr r g [.idx n.toNat]) else none) else none
          | _ => none
        | .sub r g lo len _ => match get r with
          | some (.arr g' τ _) => bif Nat.beq g g' && Nat.beq ed.size τ.size then
              (if 0 ≤ n ∧ n < len then k (.ptr r g [.idx (lo + n.toNat)]) else none) else none
          | _ => none
        | .dat own (.slice τ) xs => bif Nat.beq ed.size τ.size then
            (if 0 ≤ n then match xs[n.toNat]? with | some y => k (.ref own τ y) | none => none else none) else none
        | _ => none
      | none => none
    | _ => none
  | none => none

def buildK (fs : List (Nat × TypeId)) (n : Nat) : AVal → List (Nat × AVal) → (AVal → Option R) → Option R
  | acc, [], k => k acc
  | acc, (j, u) :: rest, k => match fs[j]? with
    | some (off, ft) => match T ft with
      | some fd => bif acc.sh.leads (pairPath n j) off fd.size && Nat.beq u.sh.size fd.size && u.flat then
          acc.setK (pairPath n j) u fun acc' => buildK fs n acc' rest k else none
      | none => none
    | none => none

def buildArrK (es : Nat) : AVal → List (Nat × AVal) → (AVal → Option R) → Option R
  | acc, [], k => k acc
  | acc, (j, u) :: rest, k => bif Nat.beq u.sh.size es && u.flat then
      acc.setK [.idx j] u fun acc' => buildArrK es acc' rest k else none

def actBuild (t : TypeId) (parts : List (Nat × AVal)) (k : AVal → Option R) : Option R :=
  match T t with
  | some d => bif d.zero.agg && d.zero.flat then (match d.und with
    | .struct fs => buildK T fs fs.length d.zero parts fun u => bif u.agg && u.flat then k u else none
    | .arr _ e => match T e with
      | some ed => match d.zero.sh with
        | .arr es _ => bif Nat.beq ed.size es.size then buildArrK ed.size d.zero parts fun u => bif u.agg && u.flat then k u else none else none
        | _ => none
      | none => none
    | _ => none) else none
  | none => none

def actExtract (v : AVal) (j : Nat) (k : AVal → Option R) : Option R :=
  match v with
  | .tup vs => nth vs j
  | _ => none
where nth : AVal → Nat → Option R
  | .cons u _, 0 => k u
  | .cons _ b, n + 1 => nth b n
  | _, _ => none

def actLen (get : Nat → Option AObj) (t : TypeId) (v : AVal) (k : AVal → Option R) : Option R :=
  match v with
  | .dat _ .str s => match undOf T t with | .str => k (.dat true (.int .i64) s.size) | _ => none
  | .dat _ (.slice _) xs => match undOf T t with | .slice _ => k (.dat true (.int .i64) xs.length) | _ => none
  | .slc r g => match undOf T t with
    | .slice _ => match get r with
      | some (.arr g' _ xs) => bif Nat.beq g g' then k (.dat true (.int .i64) xs.length) else none
      | _ => none
    | _ => none
  | .sub r g _ len _ => match undOf T t with
    | .slice _ => match get r with
      | some (.arr g' _ _) => bif Nat.beq g g' then k (.dat true (.int .i64) len) else none
      | _ => none
    | _ => none
  | .nils => match undOf T t with | .slice _ => k (.dat true (.int .i64) 0) | _ => none
  | .map r => match undOf T t with
    | .map _ _ => match get r with
      | some (.map _ _ m _ _) => k (.dat true (.int .i64) m.length)
      | _ => none
    | _ => none
  | .nilm => match undOf T t with | .map _ _ => k (.dat true (.int .i64) 0) | _ => none
  | _ => match undOf T t with | .arr n _ => k (.dat true (.int .i64) n) | _ => none

def actNilCheck (get : Nat → Option AObj) (v : AVal) (k : Option R) : Option R :=
  match v with
  | .ptr r g _ => thereK get r g k
  | .ref _ _ _ => k
  | .fn _ _ => k
  | _ => none
end defs

section
variable {P : Program} {T : Tbl} {ρ : Operand → Option AVal} {get : Nat → Option AObj} {a : Act} {w : World} {x : Ctx} {R : Type}

theorem V_int? {v : AVal} {n : Int} {u : Value} (h : v.int? = some n) (hv : v.V x u) : ∃ k, u = .int k n := by
  unfold AVal.int? at h
  split at h
  · cases h; exact ⟨_, V_int.1 hv⟩
  · cases h

theorem isAs_one {d : TD} {u : AVal} (h : d.isAs u = true) {x : Ctx} {cs : List Value} (hc : u.C x cs) (hf : u.flat = true) : d.size = cs.length ∧ (d.und.agg = false → cs.length = 1) := by
  obtain ⟨h1, h2⟩ := isAs_size h
  exact ⟨by rw [h1, AVal.C.length _ _ hc], fun ha => agg_one hc (h2 ▸ ha) hf⟩

theorem actField_ok (H : Meets P T ρ get a w x) {o : Oper} {t : TypeId} {j : Nat} {vo : Operand} (ho : o.op = .field t vo j) {v : AVal} (hv : v.V x (a.eval vo)) {k : AVal → Ups → Option R} {z : R}
    (hk : actField T t v j (fun v => k v []) = some z) : ∃ u ups, k u ups = some z ∧ ActOk P o a w x u ups := by
  unfold actField at hk
  split at hk
  case h_2 => cases hk
  rename_i fs size bytes zero cmp hd
  split at hk
  case h_2 => cases hk
  rename_i off ft hj
  split at hk
  case h_2 => cases hk
  rename_i fd hfd
  obtain ⟨hc, hk⟩ := cond_some hk
  rw [Bool.and_eq_true, Bool.and_eq_true] at hc
  obtain ⟨⟨hag, hfl⟩, hl⟩ := hc
  obtain ⟨s', hq, hsz⟩ := leads_at hl
  obtain ⟨u, hget, hk⟩ := getK_inv _ _ _ _ hk
  obtain ⟨his, hk⟩ := cond_some hk
  obtain ⟨hC, hA, _⟩ := V_inv hfl hv
  obtain ⟨c, hc⟩ := hA hag
  obtain ⟨of', hat, pre, mid, post, e, hp, hm⟩ := getK_sound _ v u _ hC hget
  rw [hq] at hat; cases hat
  obtain ⟨fields, hund, hfs, _⟩ := (show UndOk P t (.struct fs) from (H.tbl t _ hd).und)
  obtain ⟨f, hf1, hf2, hf3⟩ := field_of hfs hj
  have huf := flat_getK _ _ _ hfl hget
  obtain ⟨g1, g2⟩ := isAs_one his hm huf
  rw [hc] at e
  have hpart := part_at H.tbl hfd (w := w) (c := c) (pre := pre) (mid := mid) (post := post) (by simpa [Value.cells] using e) g1 g2
  rw [hp] at hpart
  refine ⟨_, _, hk, ActOk.value (u := valueOf u.agg mid) H.mem H.h ?_ (V_valueOf hm fun ha => agg_one hm ha huf)⟩
  simp only [execOp, ho, Instr.field, Sem.run_bind, run_underlying hund, Result.andThen_ok, hf1, hc, asAgg, Sem.run_pure, hf3, hf2, hpart, (isAs_size his).2]

theorem getElem?_bytes (s : ByteArray) (i : Nat) (h : i < s.size) : s[i]? = some (s[i]'h) := by
  simp [h]

theorem byteAt_eq (s : ByteArray) (i : Nat) (h : i < s.size) : byteAt s i = ((s[i]'h).toNat : Int) := by
  unfold byteAt
  have : s.data[i]? = some (s[i]'h) := by
    have h' : i < s.data.size := h
    rw [Array.getElem?_eq_getElem h']; rfl
  rw [this]; rfl

theorem actIndex_ok (H : Meets P T ρ get a w x) {o : Oper} {t : TypeId} {vo io : Operand} (ho : o.op = .index t vo io) {v i : AVal} (hv : v.V x (a.eval vo)) (hi : i.V x (a.eval io)) {k : AVal → Ups → Option R} {z : R}
    (hk : actIndex T t v i (fun v => k v []) = some z) : ∃ u ups, k u ups = some z ∧ ActOk P o a w x u ups := by
  unfold actIndex at hk
  split at hk
  · rename_i _ s n hi'
    have e1 := V_str.1 hv
    obtain ⟨ki, e2⟩ := V_int? hi' hi
    split at hk
    · rename_i hu
      have hb := undOf_ok H.tbl hu (by simp)
      split at hk
      · rename_i hn
        have hlt : n.toNat < s.size := by omega
        refine ⟨_, _, hk, ActOk.value H.mem H.h (u := .int .u8 (byteAt s n.toNat)) ?_ (V_int.2 rfl)⟩
        simp only [execOp, ho, Instr.index, e1, e2, asIntOf, Sem.run_bind, Sem.run_pure, Result.andThen_ok, run_underlying (show P.underlying t = _ from hb), hn.1, if_true, getElem?_bytes s _ hlt, byteAt_eq s _ hlt]
      · cases hk
    · cases hk
  · rename_i q m τ xs n hi'
    obtain ⟨ki, e2⟩ := V_int? hi' hi
    split at hk
    case h_2 => cases hk
    rename_i m' e hu
    have hb := undOf_ok H.tbl hu (by simp)
    split at hk
    case h_2 => cases hk
    rename_i ed hed
    obtain ⟨hc, hk⟩ := cond_some hk
    rw [Bool.and_eq_true, Bool.and_eq_true] at hc
    obtain ⟨⟨h1, h2⟩, h3⟩ := hc
    have hmm := Nat.eq_of_beq_eq_true h1
    have h2 := Nat.eq_of_beq_eq_true h2
    split at hk
    case isFalse => cases hk
    rename_i hn
    rw [hmm] at hn
    split at hk
    case h_2 => cases hk
    rename_i y hy
    obtain ⟨cs, ⟨hl, css, rfl, A⟩, e1⟩ := V_dat hv
    obtain ⟨c, hc, hr⟩ := A.get hy
    obtain ⟨post, p1, p2, _⟩ := flatten_part A.lengths hc
    have hlc := Ty.Rel.length _ _ _ hr
    have hpart := part_at H.tbl hed (w := w) (c := css.flatten.toArray) (pre := (css.take n.toNat).flatten) (mid := c) (post := post) (by simpa using p1) (by rw [h2, hlc]) (fun ha => by rw [hlc]; exact Ty.agg_one (by rw [← ha]; simpa using (beq_iff_eq.1 h3).symm))
    rw [p2, ← h2] at hpart
    have hcr : (AVal.dat q τ y).C x c := hr
    refine ⟨_, _, hk, ActOk.value H.mem H.h (u := valueOf (AVal.dat q τ y).agg c) ?_ (V_valueOf hcr fun ha => agg_one hcr ha rfl)⟩
    have e3 : valueOf (Ty.arr m τ).agg css.flatten = .agg css.flatten.toArray := rfl
    rw [e3] at e1
    simp only [execOp, ho, Instr.index, e1, e2, asIntOf, Sem.run_bind, Sem.run_pure, Result.andThen_ok, run_underlying (show P.underlying t = _ from hb), hn, and_self, if_true, (H.tbl _ _ hed).sizeOf, hpart]
    rw [show ed.und.agg = τ.agg from beq_iff_eq.1 h3]; rfl
  · cases hk

theorem ptr_elem {r g : Nat} {p : Path} {u : Value} {ob : AObj} (hobj : x.obj r = ob) (hv : (AVal.ptr r g p).V x u) {s es : Sh} {m o' : Nat} (hs : shapeOf ob g = some s) (hp : s.at p = some (.arr es m, o')) (i : Nat) :
    ∃ b o, u = .pointer (some ⟨b, o, none⟩) ∧ (AVal.ptr r g (p ++ [.idx i])).V x (.pointer (some ⟨b, o + i * es.size, none⟩)) :=
  ptr_part hobj hv hs hp (q := [.idx i]) (s'' := es) (off := i * es.size) (by simp [Sh.at])

theorem actIndexAddr_ok (H : Meets P T ρ get a w x) {o : Oper} {t : TypeId} {vo io : Operand} (ho : o.op = .indexAddr t vo io) {v i : AVal} (hv : v.V x (a.eval vo)) (hi : i.V x (a.eval io)) {k : AVal → Ups → Option R} {z : R}
    (hk : actIndexAddr T get t v i (fun v => k v []) = some z) : ∃ u ups, k u ups = some z ∧ ActOk P o a w x u ups := by
  unfold actIndexAddr at hk
  split at hk
  case h_2 => cases hk
  rename_i n hi'
  obtain ⟨ki, e2⟩ := V_int? hi' hi
  split at hk
  · rename_i m e hu
    have hb := undOf_ok H.tbl hu (by simp)
    split at hk
    case h_2 => cases hk
    rename_i ed hed
    split at hk
    case h_2 => cases hk
    rename_i r g p
    split at hk
    case h_2 => cases hk
    rename_i ob hg
    split at hk
    case h_2 => cases hk
    rename_i s hs
    split at hk
    case h_2 => cases hk
    rename_i es m' o' hp
    obtain ⟨hc, hk⟩ := cond_some hk
    rw [Bool.and_eq_true] at hc
    have h2 := Nat.eq_of_beq_eq_true hc.2
    split at hk
    case isFalse => cases hk
    rename_i hn
    obtain ⟨b, of, e1, hv'⟩ := ptr_elem (obj_of_get H.mem (H.obj r ob hg)) hv hs hp n.toNat
    refine ⟨_, _, hk, ActOk.value H.mem H.h ?_ hv'⟩
    simp only [execOp, ho, Instr.indexAt, e1, e2, asIntOf, Sem.run_bind, Sem.run_pure, Result.andThen_ok, run_underlying (show P.underlying t = _ from hb), Instr.sureAddr, hn, and_self, if_true, (H.tbl _ _ hed).sizeOf, add_mk, h2]
  · rename_i e hu
    have hb := undOf_ok H.tbl hu (by simp)
    split at hk
    case h_2 => cases hk
    rename_i ed hed
    split at hk
    · rename_i r g
      split at hk
      case h_2 => cases hk
      rename_i g' τ xs hg
      obtain ⟨hc, hk⟩ := cond_some hk
      rw [Bool.and_eq_true] at hc
      have h2 := Nat.eq_of_beq_eq_true hc.2
      split at hk
      case isFalse => cases hk
      rename_i hn
      have hobj := obj_of_get H.mem (H.obj r _ hg)
      obtain ⟨c0, hc0, _, hr⟩ := (show (AVal.slc r g).C x [a.eval vo] from hv)
      simp only [List.cons.injEq, and_true] at hc0
      subst hc0
      unfold SlcRel at hr
      rw [hobj] at hr
      have hr := hr.2 (Nat.eq_of_beq_eq_true hc.1)
      have hrel := H.mem.objs r
      rw [hobj] at hrel
      rcases hrel with ⟨h1, h3⟩ | ⟨b, of, c, e', css, h1, _⟩
      · rw [h3] at hn; simp at hn; omega
      · simp only [h1] at hr
        obtain ⟨cap, e1, _, _⟩ := hr
        refine ⟨_, _, hk, ActOk.value H.mem H.h (u := .pointer (some ⟨b, of + n.toNat * τ.size, none⟩)) ?_ (show (AVal.ptr r g [.idx n.toNat]).C x _ from ⟨_, rfl, rfl, ?_⟩)⟩
        · simp only [execOp, ho, Instr.indexAt, e1, e2, asIntOf, Sem.run_bind, Sem.run_pure, Result.andThen_ok, run_underlying (show P.underlying t = _ from hb), hn, and_self, if_true, (H.tbl _ _ hed).sizeOf, add_mk, h2]
        · unfold PtrRel; rw [hobj]
          exact ⟨Nat.le_of_eq (Nat.eq_of_beq_eq_true hc.1), fun _ => ⟨⟨b, of, none⟩, τ.sh, n.toNat * τ.size, h1, by simp [Sh.at, Ty.sh_size], rfl⟩⟩
    · rename_i r g lo len ex
      split at hk
      case h_2 => cases hk
      rename_i g' τ xs hg
      obtain ⟨hc, hk⟩ := cond_some hk
      rw [Bool.and_eq_true] at hc
      have h2 := Nat.eq_of_beq_eq_true hc.2
      split at hk
      case isFalse => cases hk
      rename_i hn
      have hobj := obj_of_get H.mem (H.obj r _ hg)
      obtain ⟨c0, hc0, _, hr⟩ := (show (AVal.sub r g lo len ex).C x [a.eval vo] from hv)
      simp only [List.cons.injEq, and_true] at hc0
      subst hc0
      unfold SubRel at hr
      rw [hobj] at hr
      obtain ⟨hle, base, cap, e1, h3, _, _, h4, h5⟩ := hr.2 (Nat.eq_of_beq_eq_true hc.1)
      have hrel := H.mem.objs r
      rw [hobj] at hrel
      cases base with
      | none => have := h4 rfl; omega
      | some b0 =>
        obtain ⟨a0, h6, h8, _⟩ := h5 b0 rfl (by omega)
        rcases hrel with ⟨h1, _⟩ | ⟨b, of, c, e', css, h1, _⟩
        · rw [h1] at h6; cases h6
        · rw [h1] at h6; cases h6
          rw [add_mk] at h8; subst h8
          refine ⟨_, _, hk, ActOk.value H.mem H.h (u := .pointer (some ⟨b, of + lo * τ.size + n.toNat * τ.size, none⟩)) ?_ (show (AVal.ptr r g [.idx (lo + n.toNat)]).C x _ from ⟨_, rfl, rfl, ?_⟩)⟩
          · simp only [execOp, ho, Instr.indexAt, e1, e2, asIntOf, Sem.run_bind, Sem.run_pure, Result.andThen_ok, run_underlying (show P.underlying t = _ from hb), hn, and_self, if_true, (H.tbl _ _ hed).sizeOf, add_mk, h2]
          · unfold PtrRel; rw [hobj]
            exact ⟨Nat.le_of_eq (Nat.eq_of_beq_eq_true hc.1), fun _ => ⟨⟨b, of, none⟩, τ.sh, (lo + n.toNat) * τ.size, h1, by simp [Sh.at, Ty.sh_size], by simp [ptrTo, Nat.add_mul, Nat.add_assoc]⟩⟩
    · rename_i own τ xs
      obtain ⟨hc, hk⟩ := cond_some hk
      have h2 := Nat.eq_of_beq_eq_true hc
      split at hk
      case isFalse => cases hk
      rename_i hn
      split at hk
      case h_2 => cases hk
      rename_i y hy
      have hlt : n.toNat < xs.length := (List.getElem?_eq_some_iff.1 hy).1
      obtain ⟨cs, ⟨base, len, cap, rfl, hl, h3, h4, h5⟩, e1⟩ := V_dat hv
      obtain ⟨b, of, rfl, h7, css, ⟨c, e', fr, h9, h10⟩, A⟩ := h5 (by omega)
      obtain ⟨cc, hcc, hr⟩ := A.get hy
      obtain ⟨post, p1, p2, _⟩ := flatten_part A.lengths hcc
      have e1 : a.eval vo = .slice (some ⟨b, of, none⟩) len cap := e1
      refine ⟨_, _, hk, ActOk.value H.mem H.h (u := .pointer (some ⟨b, of + n.toNat * τ.size, none⟩)) ?_ (show (AVal.ref own τ y).C x _ from ⟨b, _, cc, rfl, h7, ⟨c, e', fr, h9, fun j v hv => ?_⟩, hr⟩)⟩
      · have hn2 : 0 ≤ n ∧ n < (len : Int) := ⟨hn, by omega⟩
        simp only [execOp, ho, Instr.indexAt, e1, e2, asIntOf, Sem.run_bind, Sem.run_pure, Result.andThen_ok, run_underlying (show P.underlying t = _ from hb), hn2, and_self, if_true, (H.tbl _ _ hed).sizeOf, add_mk, h2]
      · have := h10 (n.toNat * τ.size + j) v (by
          rw [p1, List.append_assoc, List.getElem?_append_right (by omega), p2, show n.toNat * τ.size + j - n.toNat * τ.size = j by omega, List.getElem?_append_left (List.getElem?_eq_some_iff.1 hv).1]; exact hv)
        rw [← this]; congr 1; omega
    · cases hk
  · cases hk
end
end Go.Am

/- The abstract machine, tenth part: literals, lengths, tuples. -/
namespace Go.Am

theorem foldl_set (vs : List Value) : ∀ (k off : Nat) (c : Array Value) (pre mid post : List Value), c.toList = pre ++ mid ++ post → pre.length = off + k → mid.length = vs.length →
    ((vs.zipIdx k).foldl (fun cs (x : Value × Nat) => cs.setIfInBounds (off + x.2) x.1) c).toList = pre ++ vs ++ post := by
  induction vs with
  | nil => intro k off c pre mid post h _ hm; have : mid = [] := List.length_eq_zero_iff.1 hm; subst this; simpa using h
  | cons v vs ih =>
    intro k off c pre mid post h hp hm
    cases mid with
    | nil => cases hm
    | cons m mid =>
      rw [List.zipIdx_cons, List.foldl_cons]
      have := ih (k + 1) off (c.setIfInBounds (off + k) v) (pre ++ [v]) mid post (by
        rw [Array.toList_setIfInBounds, h, ← hp]; simp) (by simp; omega) (by simpa using hm)
      simpa using this

theorem fill_step {cells : Array Value} {v : Value} {off : Nat} {pre mid post : List Value} (h : cells.toList = pre ++ mid ++ post) (hp : pre.length = off) (hm : mid.length = v.cells.toList.length) :
    (v.cells.zipIdx.foldl (fun cs (x : Value × Nat) => cs.setIfInBounds (off + x.2) x.1) cells).toList = pre ++ v.cells.toList ++ post := by
  rw [← Array.foldl_toList, Array.toList_zipIdx]
  exact foldl_set v.cells.toList 0 off cells pre mid post h (by simpa using hp) hm

section
variable {P : Program} {T : Tbl} {ρ : Operand → Option AVal} {get : Nat → Option AObj} {a : Act} {w : World} {x : Ctx} {R : Type}

/-- The parts of a literal, as the machine has them and as the model has them. -/
def PartsRel (x : Ctx) (ps : List (Nat × AVal)) (qs : List (Nat × Value)) : Prop := All2 (fun p q => p.1 = q.1 ∧ p.2.V x q.2) ps qs

theorem fill_sound (place : Nat → Option (Nat × Nat)) (n : Nat) (setter : AVal → List (Nat × AVal) → (AVal → Option R) → Option R) (path : Nat → Path)
    (hstep : ∀ (acc : AVal) (j : Nat) (u : AVal) (rest : List (Nat × AVal)) (k : AVal → Option R) (z : R), setter acc ((j, u) :: rest) k = some z → ∃ off size s, place j = some (off, size) ∧ acc.sh.at (path j) = some (s, off) ∧ u.sh.size = size ∧ u.flat = true ∧
      acc.setK (path j) u (fun acc' => setter acc' rest k) = some z) (hnil : ∀ acc k, setter acc [] k = k acc) :
    ∀ (ps : List (Nat × AVal)) (qs : List (Nat × Value)) (acc : AVal) (cells : Array Value) (k : AVal → Option R) (z : R), PartsRel x ps qs → acc.C x cells.toList → setter acc ps k = some z →
      ∃ acc' cells', Instr.fill place cells qs = some cells' ∧ acc'.C x cells'.toList ∧ k acc' = some z := by
  intro ps
  induction ps with
  | nil => intro qs acc cells k z hr hc hk; rw [hr.nil_inv]; rw [hnil] at hk; exact ⟨acc, cells, rfl, hc, hk⟩
  | cons p ps ih =>
    intro qs acc cells k z hr hc hk
    obtain ⟨q, qs, rfl, ⟨hj, hv⟩, hr2⟩ := hr.cons_inv
    obtain ⟨j, u⟩ := p
    obtain ⟨j', v⟩ := q
    simp only at hj hv
    subst hj
    obtain ⟨off, size, s, h1, h2, h3, h4, h5⟩ := hstep acc j u ps k z hk
    obtain ⟨hC, _, _⟩ := V_inv h4 hv
    obtain ⟨acc', hset, hk'⟩ := setK_inv _ _ _ _ _ h5
    obtain ⟨_, o', hat, pre, mid, post, e, hp, hm, hC'⟩ := setK_sound _ acc u acc' _ hc hset _ hC
    rw [h2] at hat; cases hat
    have hl := AVal.C.length _ _ hC
    have hfs := fill_step e hp hm
    obtain ⟨acc'', cells'', g1, g2, g3⟩ := ih qs acc' _ k z hr2 (by rw [hfs]; exact hC') hk'
    refine ⟨acc'', cells'', ?_, g2, g3⟩
    have hsz : v.cells.size = u.sh.size := by rw [← hl]; simp
    have hlen : cells.size = pre.length + mid.length + post.length := by rw [← Array.length_toList, e]; simp; omega
    unfold Instr.fill
    simp only [h1]
    rw [if_neg (by
      simp only [ne_eq, Bool.or_eq_true, decide_eq_true_eq, not_or, Decidable.not_not, Nat.not_lt]
      refine ⟨by rw [hsz, h3], ?_⟩
      rw [hlen, hm, hp]; simp)]
    exact g1

theorem parts_eval {x : Ctx} {ρ : Operand → Option AVal} (hρ : ∀ o v, ρ o = some v → v.V x (a.eval o)) : ∀ (ps : List (Nat × Operand)) (qs : List (Nat × AVal)),
    ps.mapM (fun p => (ρ p.2).map fun v => (p.1, v)) = some qs → PartsRel x qs (ps.map fun p => (p.1, a.eval p.2)) := by
  intro ps
  induction ps with
  | nil => intro qs h; simp at h; subst h; exact .nil
  | cons p ps ih =>
    intro qs h
    rw [List.mapM_cons] at h
    simp only [bind, Option.bind_eq_some_iff, pure, Option.some.injEq] at h
    obtain ⟨q, hq, qs', h1, rfl⟩ := h
    cases hv : ρ p.2 with
    | none => rw [hv] at hq; cases hq
    | some v => rw [hv] at hq; cases hq; exact .cons ⟨rfl, hρ _ _ hv⟩ (ih _ h1)

theorem mapM_places (hT : TblOk P T) : ∀ (fs : List Field), (∀ f ∈ fs, ∃ d, T f.type = some d) → (fs.mapM fun f => (do pure (f.offset, ← sizeOf f.type) : Sem (Nat × Nat))).run P w = .ok (fs.map fun f => (f.offset, ((T f.type).map TD.size).getD 0)) w := by
  intro fs
  induction fs with
  | nil => intro _; simp
  | cons f fs ih =>
    intro h
    obtain ⟨d, hd⟩ := h f (by simp)
    simp only [List.mapM_cons, Sem.run_bind, (hT _ _ hd).sizeOf, Result.andThen_ok, Sem.run_pure, ih (fun g hg => h g (by simp [hg])), List.map_cons, hd, Option.map_some, Option.getD_some]

theorem actBuild_ok (H : Meets P T ρ get a w x) {o : Oper} {t : TypeId} {parts : Array (Nat × Operand)} (ho : o.op = .build t parts) {ps : List (Nat × AVal)} (hps : parts.toList.mapM (fun p => (ρ p.2).map fun v => (p.1, v)) = some ps)
    (hall : ∀ fs, undOf T t = .struct fs → fs.all (fun f => (T f.2).isSome) = true)
    {k : AVal → Ups → Option R} {z : R} (hk : actBuild T t ps (fun v => k v []) = some z) : ∃ u ups, k u ups = some z ∧ ActOk P o a w x u ups := by
  have hpr := parts_eval H.val _ _ hps
  unfold actBuild at hk
  split at hk
  case h_2 => cases hk
  rename_i d hd
  obtain ⟨hc, hk⟩ := cond_some hk
  rw [Bool.and_eq_true] at hc
  obtain ⟨hag, hfl⟩ := hc
  obtain ⟨zv, hz, hzv⟩ := (H.tbl t d hd).zeroValue (w := w)
  obtain ⟨hC, hA, _⟩ := V_inv hfl (hzv x)
  obtain ⟨c, rfl⟩ := hA hag
  have hC : d.zero.C x c.toList := hC
  have hund : undOf T t = d.und := by unfold undOf; rw [hd]
  split at hk
  · rename_i fs hfs
    obtain ⟨fields, hu, hfl2, _⟩ := (show UndOk P t (.struct fs) from hfs ▸ (H.tbl t d hd).und)
    have hallT : ∀ f ∈ fields.toList, ∃ d, T f.type = some d := by
      intro f hf
      have := List.all_eq_true.1 (hall fs (hund.trans hfs)) (f.offset, f.type) (by rw [← hfl2]; exact List.mem_map_of_mem hf)
      exact Option.isSome_iff_exists.1 this
    have hpl := mapM_places H.tbl (w := w) fields.toList hallT
    have hplA : (fields.mapM fun f => (do pure (f.offset, ← sizeOf f.type) : Sem (Nat × Nat))).run P w = .ok (fields.toList.map fun f => (f.offset, ((T f.type).map TD.size).getD 0)).toArray w := by
      rw [Array.mapM_eq_mapM_toList, Sem.run_map, hpl]; rfl
    obtain ⟨acc', cells', g1, g2, g3⟩ := fill_sound (x := x) (fun j => (fields.toList.map fun f => (f.offset, ((T f.type).map TD.size).getD 0)).toArray[j]?) fs.length (buildK T fs fs.length) (pairPath fs.length) (by
        intro acc j u rest k z hk
        unfold buildK at hk
        split at hk
        case h_2 => cases hk
        rename_i off ft hj
        split at hk
        case h_2 => cases hk
        rename_i fd hfd
        obtain ⟨hc, hk⟩ := cond_some hk
        rw [Bool.and_eq_true, Bool.and_eq_true] at hc
        obtain ⟨s, hs, _⟩ := leads_at hc.1.1
        obtain ⟨f, hf1, hf2, hf3⟩ := field_of hfl2 hj
        refine ⟨off, fd.size, s, ?_, hs, Nat.eq_of_beq_eq_true hc.1.2, hc.2, hk⟩
        simp [hf1, hf2, hf3, hfd]) (fun acc k => rfl) ps _ d.zero c _ z hpr hC hk
    obtain ⟨hc2, g3⟩ := cond_some g3
    rw [Bool.and_eq_true] at hc2
    refine ⟨_, _, g3, ActOk.value (u := .agg cells') H.mem H.h ?_ (by unfold AVal.V; rw [if_pos hc2.1]; exact ⟨_, rfl, g2⟩)⟩
    have hmap : (parts.map fun p => (p.1, a.eval p.2)).toList = parts.toList.map fun p => (p.1, a.eval p.2) := by simp
    simp only [execOp, ho, Instr.build, Sem.run_bind, hz, Result.andThen_ok, run_underlying hu, hplA]
    rw [hmap]
    simp only [Value.cells, g1, Sem.run_pure, Result.andThen_ok]
  · rename_i n e hfs
    split at hk
    case h_2 => cases hk
    rename_i ed hed
    split at hk
    case h_2 => cases hk
    rename_i es m hsh
    obtain ⟨hes, hk⟩ := cond_some hk
    have hes := Nat.eq_of_beq_eq_true hes
    have hu : P.underlying t = some (.array n e) := by have := (H.tbl t d hd).und; rw [hfs] at this; exact this
    have shAll : ∀ (acc : AVal) (p : Path) (u : AVal) (v' : AVal) (cs : List Value), acc.C x cs → acc.setK p u some = some v' → ∀ mid, u.C x mid → v'.sh = acc.sh := fun acc p u v' cs h1 h2 mid h3 => (setK_sound p acc u v' cs h1 h2 mid h3).1
    have key : ∀ (ps : List (Nat × AVal)) (qs : List (Nat × Value)) (acc : AVal) (cells : Array Value) (k : AVal → Option R) (z : R), PartsRel x ps qs → acc.C x cells.toList → acc.sh = .arr es m → buildArrK ed.size acc ps k = some z →
        ∃ acc' cells', Instr.fill (fun i => some (i * ed.size, ed.size)) cells qs = some cells' ∧ acc'.C x cells'.toList ∧ k acc' = some z := by
      intro ps
      induction ps with
      | nil => intro qs acc cells k z hr hc _ hk; rw [hr.nil_inv]; unfold buildArrK at hk; exact ⟨acc, cells, rfl, hc, hk⟩
      | cons p ps ih =>
        intro qs acc cells k z hr hc hacc hk
        obtain ⟨q, qs, rfl, ⟨hj, hv⟩, hr2⟩ := hr.cons_inv
        obtain ⟨j, u⟩ := p
        obtain ⟨j', v⟩ := q
        simp only at hj hv
        subst hj
        unfold buildArrK at hk
        obtain ⟨hc3, hk⟩ := cond_some hk
        rw [Bool.and_eq_true] at hc3
        have h3 := Nat.eq_of_beq_eq_true hc3.1
        obtain ⟨hC, _, _⟩ := V_inv hc3.2 hv
        obtain ⟨acc', hset, hk'⟩ := setK_inv _ _ _ _ _ hk
        obtain ⟨hsh', o', hat, pre, mid, post, e1, hp, hm, hC'⟩ := setK_sound _ acc u acc' _ hc hset _ hC
        rw [hacc] at hat
        simp only [Sh.at, Option.some.injEq, Prod.mk.injEq] at hat
        have hl := AVal.C.length _ _ hC
        have hfs2 := fill_step e1 hp hm
        obtain ⟨acc'', cells'', g1, g2, g3⟩ := ih qs acc' _ k z hr2 (by rw [hfs2]; exact hC') (hsh'.trans hacc) hk'
        refine ⟨acc'', cells'', ?_, g2, g3⟩
        have hsz : v.cells.size = u.sh.size := by rw [← hl]; simp
        have hlen : cells.size = pre.length + mid.length + post.length := by rw [← Array.length_toList, e1]; simp; omega
        have ho2 : o' = j * ed.size := by rw [← hat.2, hes]; omega
        unfold Instr.fill
        simp only
        rw [if_neg (by
          simp only [ne_eq, Bool.or_eq_true, decide_eq_true_eq, not_or, Decidable.not_not, Nat.not_lt]
          refine ⟨by rw [hsz, h3], ?_⟩
          rw [hlen, hm, hp, ho2]; simp)]
        rw [← ho2]
        exact g1
    obtain ⟨acc', cells', g1, g2, g3⟩ := key ps _ d.zero c _ z hpr hC hsh hk
    obtain ⟨hc2, g3⟩ := cond_some g3
    rw [Bool.and_eq_true] at hc2
    refine ⟨_, _, g3, ActOk.value (u := .agg cells') H.mem H.h ?_ (by unfold AVal.V; rw [if_pos hc2.1]; exact ⟨_, rfl, g2⟩)⟩
    have hmap : (parts.map fun p => (p.1, a.eval p.2)).toList = parts.toList.map fun p => (p.1, a.eval p.2) := by simp
    simp only [execOp, ho, Instr.build, Sem.run_bind, hz, Result.andThen_ok, run_underlying hu, (H.tbl _ _ hed).sizeOf]
    rw [hmap]
    simp only [Value.cells, g1, Sem.run_pure, Result.andThen_ok]
  · cases hk

theorem nth_sound {vs : AVal} {us : List Value} (h : vs.C x us) : ∀ {j : Nat} {k : AVal → Option R} {z : R}, actExtract.nth k vs j = some z → ∃ v u, us[j]? = some u ∧ v.V x u ∧ k v = some z := by
  induction vs generalizing us with
  | cons a b iha ihb =>
    intro j k z hk
    obtain ⟨u, us', rfl, h1, h2⟩ := h
    cases j with
    | zero => exact ⟨a, u, rfl, h1, hk⟩
    | succ j =>
      obtain ⟨v, u', h3, h4, h5⟩ := ihb h2 (j := j) hk
      exact ⟨v, u', by simpa using h3, h4, h5⟩
  | _ => intro j k z hk; cases hk

theorem actExtract_ok (H : Meets P T ρ get a w x) {o : Oper} {j : Nat} {vo : Operand} (ho : o.op = .extract vo j) {v : AVal} (hv : v.V x (a.eval vo)) {k : AVal → Ups → Option R} {z : R}
    (hk : actExtract v j (fun v => k v []) = some z) : ∃ u ups, k u ups = some z ∧ ActOk P o a w x u ups := by
  unfold actExtract at hk
  split at hk
  · rename_i vs
    obtain ⟨us, e, hC⟩ := (show (AVal.tup vs).C x [a.eval vo] from hv)
    simp only [List.cons.injEq, and_true] at e
    obtain ⟨v, u, h1, h2, h3⟩ := nth_sound hC hk
    refine ⟨_, _, h3, ActOk.value (u := u) H.mem H.h ?_ h2⟩
    simp [execOp, ho, Instr.extract, e, h1]
  · cases hk
end
end Go.Am

/- The abstract machine, eleventh part: lengths, checks for nil, slices of the call's own. -/
namespace Go.Am
section
variable {P : Program} {T : Tbl} {ρ : Operand → Option AVal} {get : Nat → Option AObj} {a : Act} {w : World} {x : Ctx} {R : Type}

theorem run_len {o : Oper} {vo : Operand} {ats : Array TypeId} (ho : o.op = .call { callee := .builtin .len, args := #[vo], argTypes := ats }) :
    (execOp a.eval o).run P w = ((Builtin.len_ ats o.type #[a.eval vo]).run P w).andThen fun v w' => .ok (.value v) w' := by
  simp only [execOp, ho, resolve, invoke, builtin, Sem.run_bind, Sem.run_pure, Result.andThen_ok, List.map_toArray, List.map_cons, List.map_nil]

theorem actLen_ok (H : Meets P T ρ get a w x) {o : Oper} {t : TypeId} {vo : Operand} {ats : Array TypeId} (ho : o.op = .call { callee := .builtin .len, args := #[vo], argTypes := ats }) (hat : ats[0]? = some t)
    {v : AVal} (hv : v.V x (a.eval vo)) {k : AVal → Ups → Option R} {z : R} (hk : actLen T get t v (fun v => k v []) = some z) : ∃ u ups, k u ups = some z ∧ ActOk P o a w x u ups := by
  have go : ∀ (n : Int), ((Builtin.len_ ats o.type #[a.eval vo]).run P w) = .ok (.int .i64 n) w → k (.dat true (.int .i64) n) [] = some z → ∃ u ups, k u ups = some z ∧ ActOk P o a w x u ups := fun n hr hk =>
    ⟨_, _, hk, ActOk.value H.mem H.h (by rw [run_len ho, hr]; rfl) (V_int.2 rfl)⟩
  have run1 : ∀ (d : TypeDesc) (v : Value) (r : Result Value), P.underlying t = some d → a.eval vo = v → (∀ (hd : (underlying t).run P w = .ok d w), (Builtin.len_ ats o.type #[v]).run P w = r) → (Builtin.len_ ats o.type #[a.eval vo]).run P w = r := by
    intro d v r hd hv hr
    rw [hv]; exact hr (run_underlying hd w)
  unfold actLen at hk
  split at hk
  · split at hk
    · rename_i s hu
      have hb := undOf_ok H.tbl hu (by simp)
      exact go _ (run1 _ _ _ hb (V_str.1 hv) fun hd => by simp [Builtin.len_, hat, hd, goInt]) hk
    · cases hk
  · rename_i own τ xs
    split at hk
    · rename_i hu
      have hb := undOf_ok H.tbl hu (by simp)
      obtain ⟨cs, ⟨base, len, cap, rfl, hl, _⟩, e1⟩ := V_dat hv
      have e1 : a.eval vo = .slice base len cap := e1
      exact go _ (run1 _ _ _ hb e1 fun hd => by simp [Builtin.len_, hat, hd, goInt, hl]) hk
    · cases hk
  · rename_i r g
    split at hk
    case h_2 => cases hk
    rename_i hu
    have hb := undOf_ok H.tbl hu (by simp)
    split at hk
    case h_2 => cases hk
    rename_i g' τ xs hg
    obtain ⟨hgg, hk⟩ := cond_some hk
    have hobj := obj_of_get H.mem (H.obj r _ hg)
    obtain ⟨c0, hc0, _, hr⟩ := (show (AVal.slc r g).C x [a.eval vo] from hv)
    simp only [List.cons.injEq, and_true] at hc0
    unfold SlcRel at hr
    rw [hobj] at hr
    have hr2 := hr.2 (Nat.eq_of_beq_eq_true hgg)
    have hrel := H.mem.objs r
    rw [hobj] at hrel
    rcases hrel with ⟨h1, h3⟩ | ⟨b, of, c, e', css, h1, _⟩
    · simp only [h1] at hr2
      subst h3
      obtain ⟨b0, hr3⟩ := hr2; subst hc0; exact go _ (run1 _ _ _ hb hr3 fun hd => by simp [Builtin.len_, hat, hd, goInt]) hk
    · simp only [h1] at hr2
      obtain ⟨cap, e1, _⟩ := hr2
      subst hc0; exact go _ (run1 _ _ _ hb e1 fun hd => by simp [Builtin.len_, hat, hd, goInt]) hk
  · rename_i r g lo len ex
    split at hk
    case h_2 => cases hk
    rename_i hu
    have hb := undOf_ok H.tbl hu (by simp)
    split at hk
    case h_2 => cases hk
    rename_i g' τ xs hg
    obtain ⟨hgg, hk⟩ := cond_some hk
    have hobj := obj_of_get H.mem (H.obj r _ hg)
    obtain ⟨c0, hc0, _, hr⟩ := (show (AVal.sub r g lo len ex).C x [a.eval vo] from hv)
    simp only [List.cons.injEq, and_true] at hc0
    unfold SubRel at hr
    rw [hobj] at hr
    obtain ⟨_, base, cap, e1, _⟩ := hr.2 (Nat.eq_of_beq_eq_true hgg)
    subst hc0; exact go _ (run1 _ _ _ hb e1 fun hd => by simp [Builtin.len_, hat, hd, goInt]) hk
  · split at hk
    case h_2 => cases hk
    rename_i hu
    have hb := undOf_ok H.tbl hu (by simp)
    obtain ⟨b0, e1⟩ : ∃ b, a.eval vo = .slice b 0 0 := by simpa [AVal.V, AVal.agg, AVal.C] using hv
    exact go _ (run1 _ _ _ hb e1 fun hd => by simp [Builtin.len_, hat, hd, goInt]) hk
  · rename_i r
    split at hk
    case h_2 => cases hk
    rename_i hu
    have hb := undOf_ok H.tbl hu (by simp)
    split at hk
    case h_2 => cases hk
    rename_i K V m bs clk hg
    have hobj := obj_of_get H.mem (H.obj r _ hg)
    obtain ⟨c0, hc0, _, hr⟩ := (show (AVal.map r).C x [a.eval vo] from hv)
    simp only [List.cons.injEq, and_true] at hc0
    unfold MapRel at hr
    rw [hobj] at hr
    obtain ⟨a0, h1, e1⟩ := hr
    have hrel := H.mem.objs r
    rw [hobj] at hrel
    obtain ⟨b, es, h2, h3, h4, _⟩ := hrel
    rw [h2] at h1; cases h1
    have hwb := heap_at H h3
    subst hc0; refine go _ (run1 _ _ _ hb e1 fun hd => by simp [Builtin.len_, hat, hd, goInt, getObj, Sem.run, hwb, h4.1]) hk
  · split at hk
    case h_2 => cases hk
    rename_i hu
    have hb := undOf_ok H.tbl hu (by simp)
    have e1 : a.eval vo = .map none := by simpa [AVal.V, AVal.agg, AVal.C] using hv
    exact go _ (run1 _ _ _ hb e1 fun hd => by simp [Builtin.len_, hat, hd, goInt]) hk
  · split at hk
    case h_2 => cases hk
    rename_i n e hu
    have hb := undOf_ok H.tbl hu (by simp)
    exact go _ (run1 _ _ _ hb rfl fun hd => by simp [Builtin.len_, hat, hd, goInt]) hk

theorem actNilCheck_ok (H : Meets P T ρ get a w x) {o : Oper} {vo : Operand} (ho : o.op = .nilCheck vo) {v : AVal} (hv : v.V x (a.eval vo)) {k : AVal → Ups → Option R} {z : R}
    (hk : actNilCheck get v (k v []) = some z) : ∃ u ups, k u ups = some z ∧ ActOk P o a w x u ups := by
  unfold actNilCheck at hk
  split at hk
  · obtain ⟨hk, ad, e⟩ := there_some H.mem H.obj hv hk
    exact ⟨_, _, hk, ActOk.value H.mem H.h (u := a.eval vo) (by simp [execOp, ho, e]) hv⟩
  · obtain ⟨b, of, ds, e, _⟩ := (show (AVal.ref _ _ _).C x [a.eval vo] from hv)
    simp only [List.cons.injEq, and_true] at e
    exact ⟨_, _, hk, ActOk.value H.mem H.h (u := a.eval vo) (by simp [execOp, ho, e]) hv⟩
  · obtain ⟨vs, e, _⟩ := (show (AVal.fn _ _).C x [a.eval vo] from hv)
    simp only [List.cons.injEq, and_true] at e
    obtain ⟨fa, fb, e'⟩ := fnVal_is _ _ vs
    have e := e.trans e'
    exact ⟨_, _, hk, ActOk.value H.mem H.h (u := a.eval vo) (by simp [execOp, ho, e]) hv⟩
  · cases hk

def actMin (u v : AVal) (k : AVal → Option R) : Option R :=
  match u, v with
  | .dat _ (.int kx) a, .dat _ (.int ky) b => if kx = ky then k (.dat true (.int kx) (if b < a then b else a)) else none
  | _, _ => none

theorem actMin_ok (H : Meets P T ρ get a w x) {o : Oper} {xo yo : Operand} {ats : Array TypeId} (ho : o.op = .call { callee := .builtin .min, args := #[xo, yo], argTypes := ats })
    {u v : AVal} (hu : u.V x (a.eval xo)) (hv : v.V x (a.eval yo)) {k : AVal → Ups → Option R} {z : R} (hk : actMin u v (fun v => k v []) = some z) : ∃ u ups, k u ups = some z ∧ ActOk P o a w x u ups := by
  unfold actMin at hk
  split at hk
  · split at hk
    · refine ⟨_, [], hk, ActOk.value H.mem H.h ?_ (V_int.2 rfl)⟩
      simp only [execOp, ho, resolve, invoke, builtin, Sem.run_bind, Sem.run_pure, Result.andThen_ok, List.map_toArray, List.map_cons, List.map_nil, V_int.1 hu, V_int.1 hv]
      rfl
    · cases hk
  · cases hk

def actMax (u v : AVal) (k : AVal → Option R) : Option R :=
  match u, v with
  | .dat _ (.int kx) a, .dat _ (.int ky) b => if kx = ky then k (.dat true (.int kx) (if a < b then b else a)) else none
  | _, _ => none

theorem actMax_ok (H : Meets P T ρ get a w x) {o : Oper} {xo yo : Operand} {ats : Array TypeId} (ho : o.op = .call { callee := .builtin .max, args := #[xo, yo], argTypes := ats })
    {u v : AVal} (hu : u.V x (a.eval xo)) (hv : v.V x (a.eval yo)) {k : AVal → Ups → Option R} {z : R} (hk : actMax u v (fun v => k v []) = some z) : ∃ u ups, k u ups = some z ∧ ActOk P o a w x u ups := by
  unfold actMax at hk
  split at hk
  · split at hk
    · refine ⟨_, [], hk, ActOk.value H.mem H.h ?_ (V_int.2 rfl)⟩
      simp only [execOp, ho, resolve, invoke, builtin, Sem.run_bind, Sem.run_pure, Result.andThen_ok, List.map_toArray, List.map_cons, List.map_nil, V_int.1 hu, V_int.1 hv]
      rfl
    · cases hk
  · cases hk

/-- A slice's bound. -/
def boundK (o : Option AVal) (d y : Nat) (k : Nat → Option R) : Option R :=
  match o with
  | none => k d
  | some (.dat _ (.int _) i) => if 0 ≤ i ∧ i ≤ y then k i.toNat else none
  | some _ => none

def actSliceStr (T : Tbl) (t : TypeId) (v : AVal) (l h : Option AVal) (k : AVal → Option R) : Option R :=
  match v with
  | .dat _ .str s => match undOf T t with
    | .str => boundK h s.size s.size fun hh => boundK l 0 hh fun ll => k (.dat true .str (s.extract ll hh))
    | _ => none
  | _ => none

/-- What an operand that may be missing stands for. -/
def optV (x : Ctx) (a : Act) : Option Operand → Option AVal → Prop
  | none, none => True
  | some o, some v => v.V x (a.eval o)
  | _, _ => False

theorem boundK_ok {o : Option Operand} {v : Option AVal} (hv : optV x a o v) {d y : Nat} {k : Nat → Option R} {z : R} (hk : boundK v d y k = some z) :
    ∃ n, k n = some z ∧ ∀ (code : BoundsCode), ((match o.map a.eval with
      | some u => Instr.sliceBound u y code
      | none => pure d : Sem Nat)).run P w = .ok n w := by
  unfold boundK at hk
  split at hk
  · cases o with
    | none => exact ⟨d, hk, fun _ => rfl⟩
    | some o => cases hv
  · rename_i p kd i
    cases o with
    | none => cases hv
    | some o =>
      split at hk
      · rename_i hi
        refine ⟨i.toNat, hk, fun code => ?_⟩
        have hu := V_int.1 hv
        simp only [Option.map_some, Instr.sliceBound, hu, asIntOf, Sem.run_bind, Sem.run_pure, Result.andThen_ok, if_pos hi]
      · cases hk
  · cases hk

theorem actSliceStr_ok (H : Meets P T ρ get a w x) {o : Oper} {t : TypeId} {xo : Operand} {lo hi : Option Operand} (ho : o.op = .slice t xo lo hi none)
    {v : AVal} {l h : Option AVal} (hv : v.V x (a.eval xo)) (hl : optV x a lo l) (hh : optV x a hi h) {k : AVal → Ups → Option R} {z : R} (hk : actSliceStr T t v l h (fun v => k v []) = some z) : ∃ u ups, k u ups = some z ∧ ActOk P o a w x u ups := by
  unfold actSliceStr at hk
  split at hk
  case h_2 => cases hk
  split at hk
  case h_2 => cases hk
  rename_i s hu
  have hb := undOf_ok H.tbl hu (by simp)
  obtain ⟨hn, hk1, hrun1⟩ := boundK_ok (P := P) (w := w) hh hk
  obtain ⟨ln, hk2, hrun2⟩ := boundK_ok (P := P) (w := w) hl hk1
  have hs := V_str.1 hv
  refine ⟨_, [], hk2, ActOk.value H.mem H.h ?_ (V_str.2 rfl)⟩
  have e1 := hrun1 .sliceAlen
  have e2 := hrun2 .sliceB
  have hb' : (underlying t).run P w = .ok .string w := run_underlying (show P.underlying t = _ from hb) w
  cases hi <;> cases lo <;> simp only [Option.map_none, Option.map_some] at e1 e2 <;>
    simp [execOp, ho, hs, Instr.sliceAt, Instr.slice, Instr.sliceBounds, hb', e1, e2, Sem.run_bind]
  all_goals simp_all
  rw [← e1, ← e2]; simp
end
end Go.Am
