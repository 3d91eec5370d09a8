/- The abstract machine, thirty-third part: what a reading of arguments says of their size. -/
import Derived.Test.YtiecnmmffplgcaaAmZF
import Derived.SizedLaws
namespace Go.Am
open Go.ChangeShapes Go.WideShapes

/-- The least number of bytes of data of a type. -/
def Ty.lo : Ty → Nat
  | .int k => match k with
    | .i8 | .u8 => 1
    | .i16 | .u16 => 2
    | .i32 | .u32 => 4
    | _ => 8
  | .bool => 1
  | .str => 16
  | .unit => 0
  | .one t => t.lo
  | .pair a b => a.lo + b.lo
  | .arr n t => n * t.lo
  | .slice _ => 24

/-- Data as a program may hold them, that were handed in: each slice has room. -/
def Ty.wr : (t : Ty) → t.den → Prop
  | .int k, n => (Lit.int k n).wf = true
  | .bool, _ => True
  | .str, s => s.size ≤ maxLen
  | .unit, _ => True
  | .one t, x => Ty.wr t x
  | .pair a b, x => Ty.wr a x.1 ∧ Ty.wr b x.2
  | .arr n t, xs => xs.length = n ∧ ∀ x ∈ xs, Ty.wr t x
  | .slice t, xs => (xs.length ≤ maxLen ∧ xs.length * t.lo ≤ reachBytes) ∧ ∀ x ∈ xs, Ty.wr t x

theorem Ty.wr.wf : ∀ (t : Ty) {x : t.den}, t.wr x → t.wf x
  | .int _, _, h => h
  | .bool, _, _ => trivial
  | .str, _, h => h
  | .unit, _, _ => trivial
  | .one t, _, h => Ty.wr.wf t h
  | .pair a b, _, h => ⟨Ty.wr.wf a h.1, Ty.wr.wf b h.2⟩
  | .arr _ t, _, h => ⟨h.1, fun x hx => Ty.wr.wf t (h.2 x hx)⟩
  | .slice t, _, h => ⟨h.1.1, fun x hx => Ty.wr.wf t (h.2 x hx)⟩

/-- Have the elements of each slice at least so many bytes? -/
def seqRoom (P : Program) (T : Tbl) : Ty → List (Nat × TypeId) → Bool
  | .pair a b, [(_, f)] => match T f with
    | some { und := .struct (g :: h :: fs), .. } => seqRoom P T a [g] && seqRoom P T b (h :: fs)
    | _ => false
  | .pair a b, f :: g :: fs => seqRoom P T a [f] && seqRoom P T b (g :: fs)
  | .one e, [(_, f)] => match T f with
    | some { und := .struct [g], .. } => seqRoom P T e [g]
    | _ => false
  | .arr _ e, [(_, f)] => match T f with
    | some { und := .arr _ g, .. } => seqRoom P T e [(0, g)]
    | _ => false
  | .slice e, [(_, f)] => match T f with
    | some { und := .slice g, .. } => Nat.ble e.lo (P.bytesOf g) && seqRoom P T e [(0, g)]
    | _ => false
  | .int _, _ | .bool, _ | .str, _ | .unit, _ => true
  | _, _ => false

def fitsRoom (P : Program) (T : Tbl) (t : Ty) (id : TypeId) : Bool := seqRoom P T t [(0, id)]

section
variable {H : Type}
theorem weights_struct {P : Program} {id : TypeId} {fields : Array Field} (hu : P.underlying id = some (.struct fields)) {parts : List (DataW H)} {B : Nat} (h : ∀ n ∈ (DataW.agg parts).weights P id, n ≤ B) {i : Nat} {fl : Field} {d : DataW H} (hf : fields[i]? = some fl) (hd : parts[i]? = some d) : ∀ n ∈ d.weights P fl.type, n ≤ B := by
  intro n hn
  refine h n ?_
  unfold DataW.weights
  rw [hu]
  exact DataW.weights_mem_each (j := i) (by rw [List.getElem?_map]; simp [hf]) hd n hn
theorem weights_all {P : Program} {e : TypeId} : ∀ {ds : List (DataW H)} {i : Nat} {d : DataW H}, ds[i]? = some d → ∀ n ∈ d.weights P e, n ∈ DataW.weightsAll P e ds
  | d0 :: ds, 0, d, hd, n, hn => by
    simp only [List.getElem?_cons_zero, Option.some.injEq] at hd
    subst hd
    simp only [DataW.weightsAll, List.mem_append]; exact .inl hn
  | d0 :: ds, i + 1, d, hd, n, hn => by
    simp only [List.getElem?_cons_succ] at hd
    simp only [DataW.weightsAll, List.mem_append]; exact .inr (weights_all hd n hn)
  | [], _, _, hd, _, _ => by simp at hd
theorem weights_array {P : Program} {id e : TypeId} {m : Nat} (hu : P.underlying id = some (.array m e)) {parts : List (DataW H)} {B : Nat} (h : ∀ n ∈ (DataW.agg parts).weights P id, n ≤ B) {i : Nat} {d : DataW H} (hd : parts[i]? = some d) : ∀ n ∈ d.weights P e, n ≤ B := by
  intro n hn
  refine h n ?_
  unfold DataW.weights
  rw [hu]
  exact weights_all hd n hn
theorem weights_slice {P : Program} {id e : TypeId} (hu : P.underlying id = some (.slice e)) {elems spare : List (DataW H)} {B : Nat} (h : ∀ n ∈ (DataW.slice elems spare).weights P id, n ≤ B) : elems.length * P.bytesOf e ≤ B ∧ ∀ {i : Nat} {d : DataW H}, elems[i]? = some d → ∀ n ∈ d.weights P e, n ≤ B := by
  have hw : (DataW.slice elems spare).weights P id = (elems.length + spare.length) * P.bytesOf e :: (DataW.weightsAll P e elems ++ DataW.weightsAll P e spare) := by
    rw [DataW.weights, hu]
  rw [hw] at h
  refine ⟨Nat.le_trans (Nat.mul_le_mul_right _ (Nat.le_add_right _ _)) (h _ (List.mem_cons_self ..)), fun hd n hn => h n (List.mem_cons_of_mem _ (List.mem_append_left _ (weights_all hd n hn)))⟩
end

section
variable {P : Program} {T : Tbl} {H : Type} {enc : TypeId × Value → H} {w : World} {base : Nat} {sp : Nat → Bool} {held : Bool}

theorem read_seqr (hT : TblOk P T) : ∀ (t : Ty), t.thick = true →
    (∀ (f : Nat × TypeId) (off : Nat), seqFits T t off [f] = true → seqRoom P T t [f] = true → ∀ (n : Nat) (cs : List Value) (y : DataW H × List MemPlace), DataW.trod enc P w base sp held n f.2 cs = some y → (∀ k ∈ y.1.weights P f.2, k ≤ reachBytes) →
      ∃ x : t.den, t.Rel (fun b => w.heap[b]?) (fun b => b < w.heap.size) x cs ∧ t.wr x) ∧
    (∀ (fs : List (Nat × TypeId)) (off : Nat), seqFits T t off fs = true → seqRoom P T t fs = true → ∀ (n : Nat) (cs : List Value), (∀ f ∈ fs, ∃ y, DataW.trod enc P w base sp held n f.2 ((cs.drop f.1).take (P.cellsOf f.2)) = some y ∧ ∀ k ∈ y.1.weights P f.2, k ≤ reachBytes) →
      ∃ x : t.den, t.Rel (fun b => w.heap[b]?) (fun b => b < w.heap.size) x ((cs.drop off).take t.size) ∧ t.wr x) := by
  have single : ∀ (t : Ty), (∀ (f : Nat × TypeId) (off : Nat), seqFits T t off [f] = true → seqRoom P T t [f] = true → ∀ (n : Nat) (cs : List Value) (y : DataW H × List MemPlace), DataW.trod enc P w base sp held n f.2 cs = some y → (∀ k ∈ y.1.weights P f.2, k ≤ reachBytes) →
      ∃ x : t.den, t.Rel (fun b => w.heap[b]?) (fun b => b < w.heap.size) x cs ∧ t.wr x) →
      ∀ (f : Nat × TypeId) (off : Nat), seqFits T t off [f] = true → seqRoom P T t [f] = true → ∀ (n : Nat) (cs : List Value), (∀ g ∈ [f], ∃ y, DataW.trod enc P w base sp held n g.2 ((cs.drop g.1).take (P.cellsOf g.2)) = some y ∧ ∀ k ∈ y.1.weights P g.2, k ≤ reachBytes) →
      ∃ x : t.den, t.Rel (fun b => w.heap[b]?) (fun b => b < w.heap.size) x ((cs.drop off).take t.size) ∧ t.wr x := by
    intro t A f off hf hr n cs hy
    obtain ⟨y, hy, hz⟩ := hy f (by simp)
    obtain ⟨h1, d, h2, _, h4⟩ := seqFits_one hf
    rw [cells_td (hT _ _ h2), h1, h4] at hy
    exact A f off hf hr n _ y hy hz
  -- what a struct's fields say
  have fields : ∀ (id : TypeId) (d : TD) (fs : List (Nat × TypeId)), T id = some d → d.und = .struct fs → ∀ (n : Nat) (cs : List Value) (y : DataW H × List MemPlace), DataW.trod enc P w base sp held n id cs = some y → (∀ k ∈ y.1.weights P id, k ≤ reachBytes) →
      cs.length = d.size ∧ ∃ m, ∀ f ∈ fs, ∃ y, DataW.trod enc P w base sp held m f.2 ((cs.drop f.1).take (P.cellsOf f.2)) = some y ∧ ∀ k ∈ y.1.weights P f.2, k ≤ reachBytes := by
    intro id d fs hd hu n cs y h hz
    have hok := hT _ _ hd
    have hund := hok.und
    rw [hu] at hund
    obtain ⟨fields, h1, h2, _⟩ := hund
    obtain ⟨xs, m, _, rfl, hl, hxl, hall⟩ := DataW.trod_struct h1 h
    refine ⟨by rw [hl, cells_td hok], m, fun f hf => ?_⟩
    rw [← h2, List.mem_map] at hf
    obtain ⟨fl, hfl, rfl⟩ := hf
    obtain ⟨i, hi⟩ := List.getElem?_of_mem hfl
    have hi' : fields[i]? = some fl := by simpa using hi
    have hlt : i < xs.length := by
      rw [hxl]
      rcases Nat.lt_or_ge i fields.size with h | h
      · exact h
      · rw [Array.getElem?_eq_none h] at hi'; cases hi'
    exact ⟨xs[i], by rw [hall i fl hi', List.getElem?_eq_getElem hlt], weights_struct h1 hz hi' (by rw [List.getElem?_map, List.getElem?_eq_getElem hlt]; rfl)⟩
  intro t
  induction t with
  | int k =>
    intro _
    have A : ∀ (f : Nat × TypeId) (off : Nat), seqFits T (.int k) off [f] = true → seqRoom P T (.int k) [f] = true → ∀ (n : Nat) (cs : List Value) (y : DataW H × List MemPlace), DataW.trod enc P w base sp held n f.2 cs = some y → (∀ k ∈ y.1.weights P f.2, k ≤ reachBytes) → ∃ x : Ty.den (.int k), Ty.Rel (fun b => w.heap[b]?) (fun b => b < w.heap.size) (.int k) x cs ∧ Ty.wr (.int k) x := by
      intro f off hf hr n cs y h hz
      simp only [seqFits] at hf
      split at hf
      · rename_i k' he
        obtain ⟨_, d, h2, h3, _⟩ := hd?_inv he
        have hu := (hT _ _ h2).und
        rw [h3] at hu
        obtain rfl : k = k' := by simpa using hf
        obtain ⟨v, h4, _, h5⟩ := DataW.trod_int (show P.underlying f.2 = some (.int k) from hu) h
        exact ⟨v, h4, h5⟩
      · cases hf
    refine ⟨A, fun fs off hf hr n cs hy => ?_⟩
    match fs, hf, hr, hy with
    | [f], hf, hr, hy => exact single _ A f off hf hr n cs hy
  | bool =>
    intro _
    have A : ∀ (f : Nat × TypeId) (off : Nat), seqFits T .bool off [f] = true → seqRoom P T .bool [f] = true → ∀ (n : Nat) (cs : List Value) (y : DataW H × List MemPlace), DataW.trod enc P w base sp held n f.2 cs = some y → (∀ k ∈ y.1.weights P f.2, k ≤ reachBytes) → ∃ x : Ty.den .bool, Ty.Rel (fun b => w.heap[b]?) (fun b => b < w.heap.size) .bool x cs ∧ Ty.wr .bool x := by
      intro f off hf hr n cs y h hz
      simp only [seqFits] at hf
      split at hf
      · rename_i he
        obtain ⟨_, d, h2, h3, _⟩ := hd?_inv he
        have hu := (hT _ _ h2).und
        rw [h3] at hu
        obtain ⟨v, h4, _⟩ := DataW.trod_bool (show P.underlying f.2 = some .bool from hu) h
        exact ⟨v, h4, trivial⟩
      · cases hf
    refine ⟨A, fun fs off hf hr n cs hy => ?_⟩
    match fs, hf, hr, hy with
    | [f], hf, hr, hy => exact single _ A f off hf hr n cs hy
  | str =>
    intro _
    have A : ∀ (f : Nat × TypeId) (off : Nat), seqFits T .str off [f] = true → seqRoom P T .str [f] = true → ∀ (n : Nat) (cs : List Value) (y : DataW H × List MemPlace), DataW.trod enc P w base sp held n f.2 cs = some y → (∀ k ∈ y.1.weights P f.2, k ≤ reachBytes) → ∃ x : Ty.den .str, Ty.Rel (fun b => w.heap[b]?) (fun b => b < w.heap.size) .str x cs ∧ Ty.wr .str x := by
      intro f off hf hr n cs y h hz
      simp only [seqFits] at hf
      split at hf
      · rename_i he
        obtain ⟨_, d, h2, h3, _⟩ := hd?_inv he
        have hu := (hT _ _ h2).und
        rw [h3] at hu
        obtain ⟨v, h4, _, h5⟩ := DataW.trod_string (show P.underlying f.2 = some .string from hu) h
        exact ⟨v, h4, h5⟩
      · cases hf
    refine ⟨A, fun fs off hf hr n cs hy => ?_⟩
    match fs, hf, hr, hy with
    | [f], hf, hr, hy => exact single _ A f off hf hr n cs hy
  | unit =>
    intro _
    have A : ∀ (f : Nat × TypeId) (off : Nat), seqFits T .unit off [f] = true → seqRoom P T .unit [f] = true → ∀ (n : Nat) (cs : List Value) (y : DataW H × List MemPlace), DataW.trod enc P w base sp held n f.2 cs = some y → (∀ k ∈ y.1.weights P f.2, k ≤ reachBytes) → ∃ x : Ty.den .unit, Ty.Rel (fun b => w.heap[b]?) (fun b => b < w.heap.size) .unit x cs ∧ Ty.wr .unit x := by
      intro f off hf hr n cs y h hz
      simp only [seqFits] at hf
      split at hf
      · rename_i he
        obtain ⟨_, d, h2, h3, h4⟩ := hd?_inv he
        obtain ⟨h5, _⟩ := fields _ _ _ h2 h3 n cs y h hz
        exact ⟨(), List.length_eq_zero_iff.1 (h5.trans h4), trivial⟩
      · cases hf
    refine ⟨A, fun fs off hf hr n cs hy => ?_⟩
    match fs, hf, hr, hy with
    | [f], hf, hr, hy => exact single _ A f off hf hr n cs hy
  | one e ih =>
    intro hth
    have ih := ih hth
    have A : ∀ (f : Nat × TypeId) (off : Nat), seqFits T (.one e) off [f] = true → seqRoom P T (.one e) [f] = true → ∀ (n : Nat) (cs : List Value) (y : DataW H × List MemPlace), DataW.trod enc P w base sp held n f.2 cs = some y → (∀ k ∈ y.1.weights P f.2, k ≤ reachBytes) → ∃ x : Ty.den (.one e), Ty.Rel (fun b => w.heap[b]?) (fun b => b < w.heap.size) (.one e) x cs ∧ Ty.wr (.one e) x := by
      intro f off hf hr n cs y h hz
      simp only [seqFits] at hf
      split at hf
      · rename_i g he
        obtain ⟨_, d, h2, h3, h4⟩ := hd?_inv he
        have hr : seqRoom P T e [g] = true := by
          obtain ⟨fo, ft⟩ := f
          obtain ⟨du, ds, dc, dd⟩ := d
          simp only at h3
          subst h3
          simpa [seqRoom, h2] using hr
        obtain ⟨h5, m, h6⟩ := fields _ _ _ h2 h3 n cs y h hz
        obtain ⟨x, h7, h8⟩ := ih.2 [g] 0 hf hr m cs h6
        rw [List.drop_zero, List.take_of_length_le (by rw [h5, h4]; exact Nat.le_refl _)] at h7
        exact ⟨x, h7, h8⟩
      · cases hf
    refine ⟨A, fun fs off hf hr n cs hy => ?_⟩
    match fs, hf, hr, hy with
    | [f], hf, hr, hy => exact single _ A f off hf hr n cs hy
  | pair a b iha ihb =>
    intro hth
    simp only [Ty.thick, Bool.and_eq_true] at hth
    have iha := iha hth.1
    have ihb := ihb hth.2
    have A : ∀ (f : Nat × TypeId) (off : Nat), seqFits T (.pair a b) off [f] = true → seqRoom P T (.pair a b) [f] = true → ∀ (n : Nat) (cs : List Value) (y : DataW H × List MemPlace), DataW.trod enc P w base sp held n f.2 cs = some y → (∀ k ∈ y.1.weights P f.2, k ≤ reachBytes) → ∃ x : Ty.den (.pair a b), Ty.Rel (fun b => w.heap[b]?) (fun b => b < w.heap.size) (.pair a b) x cs ∧ Ty.wr (.pair a b) x := by
      intro f off hf hr n cs y h hz
      simp only [seqFits] at hf
      split at hf
      · rename_i g h0 fs he
        rw [Bool.and_eq_true] at hf
        obtain ⟨_, d, h2, h3, h4⟩ := hd?_inv he
        obtain ⟨h5, m, h6⟩ := fields _ _ _ h2 h3 n cs y h hz
        have hr : seqRoom P T a [g] = true ∧ seqRoom P T b (h0 :: fs) = true := by
          obtain ⟨fo, ft⟩ := f
          obtain ⟨du, ds, dc, dd⟩ := d
          simp only at h3
          subst h3
          simpa [seqRoom, h2] using hr
        obtain ⟨x, h7, h8⟩ := iha.2 [g] 0 hf.1 hr.1 m cs fun q hq => h6 q (by simp at hq; simp [hq])
        obtain ⟨z, h9, h10⟩ := ihb.2 (h0 :: fs) a.size hf.2 hr.2 m cs fun q hq => h6 q (by simp at hq ⊢; exact .inr hq)
        refine ⟨(x, z), ⟨_, _, ?_, h7, h9⟩, h8, h10⟩
        rw [List.drop_zero, List.take_of_length_le (l := cs.drop a.size) (by rw [List.length_drop, h5, h4]; omega), List.take_append_drop]
      · cases hf
    refine ⟨A, fun fs off hf hr n cs hy => ?_⟩
    match fs, hf, hr, hy with
    | [f], hf, hr, hy => exact single _ A f off hf hr n cs hy
    | f :: g :: fs, hf, hr, hy =>
      simp only [seqFits, Bool.and_eq_true] at hf
      simp only [seqRoom, Bool.and_eq_true] at hr
      obtain ⟨x, h7, h8⟩ := iha.2 [f] off hf.1 hr.1 n cs fun q hq => hy q (by simp at hq; simp [hq])
      obtain ⟨z, h9, h10⟩ := ihb.2 (g :: fs) (off + a.size) hf.2 hr.2 n cs fun q hq => hy q (by simp at hq ⊢; exact .inr hq)
      refine ⟨(x, z), ⟨_, _, ?_, h7, h9⟩, h8, h10⟩
      show (cs.drop off).take (a.size + b.size) = _
      rw [List.take_add, List.drop_drop]
  | arr k e ih =>
    intro hth
    have ih := ih hth
    have A : ∀ (f : Nat × TypeId) (off : Nat), seqFits T (.arr k e) off [f] = true → seqRoom P T (.arr k e) [f] = true → ∀ (n : Nat) (cs : List Value) (y : DataW H × List MemPlace), DataW.trod enc P w base sp held n f.2 cs = some y → (∀ k ∈ y.1.weights P f.2, k ≤ reachBytes) → ∃ x : Ty.den (.arr k e), Ty.Rel (fun b => w.heap[b]?) (fun b => b < w.heap.size) (.arr k e) x cs ∧ Ty.wr (.arr k e) x := by
      intro f off hf hr n cs y h hz
      simp only [seqFits] at hf
      split at hf
      · rename_i m g he
        rw [Bool.and_eq_true] at hf
        obtain rfl := Nat.eq_of_beq_eq_true hf.1
        obtain ⟨_, d, h2, h3, h4⟩ := hd?_inv he
        have hu := (hT _ _ h2).und
        rw [h3] at hu
        obtain ⟨_, dg, h5, _, h6⟩ := seqFits_one hf.2
        have hcg : P.cellsOf g = e.size := (cells_td (hT _ _ h5)).trans h6
        have hr : seqRoom P T e [(0, g)] = true := by
          obtain ⟨fo, ft⟩ := f
          obtain ⟨du, ds, dc, dd⟩ := d
          simp only at h3
          subst h3
          simpa [seqRoom, h2] using hr
        obtain ⟨xs, q, _, rfl, hl, hxl, hall⟩ := DataW.trod_array (show P.underlying f.2 = some (.array m g) from hu) h
        obtain ⟨zs, css, h7, h8, h9⟩ := build_list (Q := fun x c => Ty.Rel (fun b => w.heap[b]?) (fun b => b < w.heap.size) e x c ∧ e.wr x) (c := e.size) m cs (by rw [hl, cells_td (hT _ _ h2), h4]) fun i hi => by
          have := hall i hi
          rw [hcg, List.getElem?_eq_getElem (by rw [hxl]; exact hi)] at this
          exact ih.1 (0, g) 0 hf.2 hr q _ _ this (weights_array (show P.underlying f.2 = some (.array m g) from hu) hz (i := i) (by rw [List.getElem?_map, List.getElem?_eq_getElem (by rw [hxl]; exact hi)]; rfl))
        refine ⟨zs, ⟨h7, css, h8, h9.mono fun _ _ h => h.1⟩, h7, fun x hx => ?_⟩
        obtain ⟨i, hi⟩ := List.getElem?_of_mem hx
        obtain ⟨c, _, hc⟩ := h9.get hi
        exact hc.2
      · cases hf
    refine ⟨A, fun fs off hf hr n cs hy => ?_⟩
    match fs, hf, hr, hy with
    | [f], hf, hr, hy => exact single _ A f off hf hr n cs hy
  | slice e ih =>
    intro hth
    simp only [Ty.thick, Bool.and_eq_true] at hth
    have hc0 : 0 < e.size := by simpa [Nat.blt_eq] using hth.1
    have ih := ih hth.2
    have A : ∀ (f : Nat × TypeId) (off : Nat), seqFits T (.slice e) off [f] = true → seqRoom P T (.slice e) [f] = true → ∀ (n : Nat) (cs : List Value) (y : DataW H × List MemPlace), DataW.trod enc P w base sp held n f.2 cs = some y → (∀ k ∈ y.1.weights P f.2, k ≤ reachBytes) → ∃ x : Ty.den (.slice e), Ty.Rel (fun b => w.heap[b]?) (fun b => b < w.heap.size) (.slice e) x cs ∧ Ty.wr (.slice e) x := by
      intro f off hf hr n cs y h hz
      simp only [seqFits] at hf
      split at hf
      · rename_i g he
        obtain ⟨_, d, h2, h3, h4⟩ := hd?_inv he
        have hu := (hT _ _ h2).und
        rw [h3] at hu
        obtain ⟨_, dg, h5, _, h6⟩ := seqFits_one hf
        have hcg : P.cellsOf g = e.size := (cells_td (hT _ _ h5)).trans h6
        have hr : e.lo ≤ P.bytesOf g ∧ seqRoom P T e [(0, g)] = true := by
          obtain ⟨fo, ft⟩ := f
          obtain ⟨du, ds, dc, dd⟩ := d
          simp only at h3
          subst h3
          simpa [seqRoom, h2] using hr
        rcases DataW.trod_slice (show P.underlying f.2 = some (.slice g) from hu) h with ⟨rfl, _⟩ | ⟨a, len, cap, elems, rest, m, _, rfl, rfl, _, hle, hcap, hel, hall, _⟩
        · exact ⟨[], ⟨none, 0, 0, rfl, rfl, Nat.le_refl _, fun _ => rfl, fun h => absurd h (Nat.lt_irrefl _)⟩, ⟨Nat.zero_le _, by rw [List.length_nil, Nat.zero_mul]; exact Nat.zero_le _⟩, fun x hx => by cases hx⟩
        obtain ⟨hz1, hz2⟩ := weights_slice (show P.underlying f.2 = some (.slice g) from hu) hz
        rw [List.length_map, hel] at hz1
        rw [hcg] at hall
        by_cases hlen : len = 0
        · subst hlen
          exact ⟨[], ⟨some a, 0, cap, rfl, rfl, Nat.zero_le _, (fun e => by cases e), fun h => absurd h (Nat.lt_irrefl _)⟩, ⟨Nat.zero_le _, by rw [List.length_nil, Nat.zero_mul]; exact Nat.zero_le _⟩, fun x hx => by cases hx⟩
        -- each element's cells
        have chunk : ∀ i, i < len → ∃ ch y, (ch.length = e.size ∧ ∀ j, j < e.size → w.cell? ((a.add (i * e.size)).add j) = ch[j]?) ∧ DataW.trod enc P w base sp held m g ch = some y ∧ ∀ k ∈ y.1.weights P g, k ≤ reachBytes := by
          intro i hi
          have := hall i hi
          rw [List.getElem?_eq_getElem (by omega)] at this
          cases hch : w.cells? base (a.add (i * e.size)) e.size with
          | none => rw [hch] at this; cases this
          | some ch => rw [hch] at this; exact ⟨ch, _, (World.cells?_some hch).2, this, hz2 (i := i) (by rw [List.getElem?_map, List.getElem?_eq_getElem (by omega)]; rfl)⟩
        obtain ⟨ch0, _, ⟨hl0, hg0⟩, _⟩ := chunk 0 (by omega)
        have hcell := hg0 0 hc0
        rw [Nat.zero_mul] at hcell
        have ha0 : (a.add 0).add 0 = a := by simp [Addr.add]
        rw [ha0, List.getElem?_eq_getElem (by omega)] at hcell
        obtain ⟨b, o, spot⟩ := a
        unfold World.cell? at hcell
        simp only at hcell
        cases hb : w.heap[b]? with
        | none => rw [hb] at hcell; cases hcell
        | some ob =>
          rw [hb] at hcell
          cases ob with
          | cells C et fr =>
            simp only at hcell
            have hspot : spot = none := by
              cases spot with
              | none => rfl
              | some q => simp at hcell
            subst hspot
            have at_ : ∀ i, i < len → ∀ j, j < e.size → ∀ ch : List Value, w.cell? (((⟨b, o, none⟩ : Addr).add (i * e.size)).add j) = ch[j]? → C[o + (i * e.size + j)]? = ch[j]? := by
              intro i _ j _ ch hq
              rw [add_mk, add_mk, cell_of_heap hb, Nat.add_assoc] at hq
              exact hq
            have hlt : ∀ j, j < len * e.size → o + j < C.size := by
              intro j hj
              have hi : j / e.size < len := by rw [Nat.div_lt_iff_lt_mul hc0]; exact hj
              obtain ⟨ch, _, ⟨hl, hg⟩, _⟩ := chunk (j / e.size) hi
              have hm := Nat.mod_lt j hc0
              have := at_ _ hi (j % e.size) hm ch (hg _ hm)
              rw [List.getElem?_eq_getElem (by omega)] at this
              have := (Array.getElem?_eq_some_iff.1 this).1
              have e1 : j / e.size * e.size + j % e.size = j := by rw [Nat.mul_comm]; exact Nat.div_add_mod j e.size
              omega
            have hrow : ((C.toList.drop o).take (len * e.size)).length = len * e.size := by
              rw [List.length_take, List.length_drop]
              have := hlt (len * e.size - 1) (by have := Nat.mul_pos (Nat.pos_of_ne_zero hlen) hc0; omega)
              simp only [Array.length_toList]
              omega
            have hget : ∀ j, j < len * e.size → ((C.toList.drop o).take (len * e.size))[j]? = C[o + j]? := by
              intro j hj
              rw [List.getElem?_take, if_pos hj, List.getElem?_drop]
              simp
            obtain ⟨zs, css, h7, h8, h9⟩ := build_list (Q := fun x c => Ty.Rel (fun b => w.heap[b]?) (fun b => b < w.heap.size) e x c ∧ e.wr x) (c := e.size) len _ hrow fun i hi => by
              obtain ⟨ch, y, ⟨hl, hg⟩, ht, htz⟩ := chunk i hi
              have hch : (((C.toList.drop o).take (len * e.size)).drop (i * e.size)).take e.size = ch := by
                apply List.ext_getElem?
                intro j
                rcases Nat.lt_or_ge j e.size with hj | hj
                · have hij : i * e.size + j < len * e.size := by
                    have : (i + 1) * e.size ≤ len * e.size := Nat.mul_le_mul_right _ hi
                    rw [Nat.succ_mul] at this; omega
                  rw [List.getElem?_take, if_pos hj, List.getElem?_drop, hget _ hij]
                  exact at_ i hi j hj ch (hg j hj)
                · rw [List.getElem?_eq_none (by rw [List.length_take]; omega), List.getElem?_eq_none (by omega)]
              rw [hch]
              exact ih.1 (0, g) 0 hf hr.2 m _ _ ht htz
            refine ⟨zs, ⟨some ⟨b, o, none⟩, len, cap, rfl, h7.symm, hle, (fun e => by cases e), fun _ => ⟨b, o, rfl, by simpa using (Array.getElem?_eq_some_iff.1 hb).1, css, ⟨C, et, fr, hb, fun j v hv => ?_⟩, h9.mono fun _ _ h => h.1⟩⟩, ⟨by rw [h7]; exact Nat.le_trans hle hcap, by rw [h7]; exact Nat.le_trans (Nat.mul_le_mul_left _ hr.1) hz1⟩, fun x hx => ?_⟩
            · rw [← h8] at hv
              have hj : j < len * e.size := by rw [← hrow]; exact (List.getElem?_eq_some_iff.1 hv).1
              rw [hget j hj] at hv
              exact hv
            · obtain ⟨i, hi⟩ := List.getElem?_of_mem hx
              obtain ⟨c, _, hc⟩ := h9.get hi
              exact hc.2
          | _ => cases hcell
      · cases hf
    refine ⟨A, fun fs off hf hr n cs hy => ?_⟩
    match fs, hf, hr, hy with
    | [f], hf, hr, hy => exact single _ A f off hf hr n cs hy

/-- An argument, read: data that lie where the argument says. -/
theorem read_argr (hT : TblOk P T) {t : Ty} {id : TypeId} (hf : fits T t id = true) (hr : fitsRoom P T t id = true) (hth : t.thick = true) {r : Reach} {b0 : Nat} {v : Value} {d : DataW H} {ps : List MemPlace} (hval : Value.okWide P w r b0 id v) (hd : DataW.Trod enc P w base sp held id v d ps) (hz : ∀ k ∈ d.weights P id, k ≤ reachBytes) :
    ∃ x : t.den, (AVal.dat false t x).V (ctx0 w) v ∧ t.wr x := by
  obtain ⟨fuel, hd⟩ := hd
  obtain ⟨x, h1, h2⟩ := (read_seqr hT t hth).1 (0, id) 0 hf hr fuel _ _ hd hz
  refine ⟨x, ?_, h2⟩
  have h1 : t.Rel (ctx0 w).h ((ctx0 w).S false) x v.cells.toList := Ty.Rel.congr (fun b hb => ⟨hb, rfl⟩) _ _ _ h1
  have one : t.agg = false → v.cells.toList = [v] → (AVal.dat false t x).V (ctx0 w) v := by
    intro ha e
    unfold AVal.V
    rw [if_neg (by show ¬ t.agg = true; rw [ha]; simp), ← e]
    exact h1
  have many : t.agg = true → (∃ cs, v = .agg cs) → (AVal.dat false t x).V (ctx0 w) v := by
    rintro ha ⟨cs, rfl⟩
    unfold AVal.V
    rw [if_pos (show (AVal.dat false t x).agg = true from ha)]
    exact ⟨cs, rfl, h1⟩
  have undAt : ∀ {u : Und} {sz : Nat}, hd? T sz 0 (0, id) = some u → UndOk P id u := by
    intro u sz he
    obtain ⟨_, dd, h3, h4, _⟩ := hd?_inv he
    rw [← h4]; exact (hT _ _ h3).und
  unfold fits at hf
  cases t with
  | int k =>
    simp only [seqFits] at hf
    split at hf
    · rename_i k' he; exact one rfl (cells_self (.inr (.inr (.inl ⟨k', undAt he⟩))) hval)
    · cases hf
  | bool =>
    simp only [seqFits] at hf
    split at hf
    · rename_i he; exact one rfl (cells_self (.inl (undAt he)) hval)
    · cases hf
  | str =>
    simp only [seqFits] at hf
    split at hf
    · rename_i he; exact one rfl (cells_self (.inr (.inl (undAt he))) hval)
    · cases hf
  | slice e =>
    simp only [seqFits] at hf
    split at hf
    · rename_i g he; exact one rfl (cells_self (.inr (.inr (.inr ⟨g, undAt he⟩))) hval)
    · cases hf
  | unit =>
    simp only [seqFits] at hf
    split at hf
    · rename_i he
      obtain ⟨fields, hu, _⟩ := undAt he
      unfold Value.okWide at hval
      rw [hu] at hval
      obtain ⟨cs, rfl, _⟩ := hval
      exact many rfl ⟨cs, rfl⟩
    · cases hf
  | one e =>
    simp only [seqFits] at hf
    split at hf
    · rename_i g he
      obtain ⟨fields, hu, _⟩ := undAt he
      unfold Value.okWide at hval
      rw [hu] at hval
      obtain ⟨cs, rfl, _⟩ := hval
      exact many rfl ⟨cs, rfl⟩
    · cases hf
  | pair a b =>
    simp only [seqFits] at hf
    split at hf
    · rename_i g h0 fs he
      obtain ⟨fields, hu, _⟩ := undAt he
      unfold Value.okWide at hval
      rw [hu] at hval
      obtain ⟨cs, rfl, _⟩ := hval
      exact many rfl ⟨cs, rfl⟩
    · cases hf
  | arr n e =>
    simp only [seqFits] at hf
    split at hf
    · rename_i m g he
      have hu : P.underlying id = some (.array m g) := undAt he
      unfold Value.okWide at hval
      rw [hu] at hval
      obtain ⟨cs, rfl, _⟩ := hval
      exact many rfl ⟨cs, rfl⟩
    · cases hf

end
end Go.Am
