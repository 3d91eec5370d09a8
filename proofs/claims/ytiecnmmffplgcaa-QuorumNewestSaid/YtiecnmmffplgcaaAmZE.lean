/- The abstract machine, thirty-first part: what a reading of arguments says, as plain data. -/
import Derived.Test.YtiecnmmffplgcaaAmZD
import Derived.OpenShut
import Derived.ChangeStays
namespace Go.Am
open Go.ChangeShapes Go.WideShapes

/-- Data as a program may hold them. -/
def Ty.wf : (t : Ty) → t.den → Prop
  | .int k, n => (Lit.int k n).wf = true
  | .bool, _ => True
  | .str, s => s.size ≤ maxLen
  | .unit, _ => True
  | .one t, x => Ty.wf t x
  | .pair a b, x => Ty.wf a x.1 ∧ Ty.wf b x.2
  | .arr n t, xs => xs.length = n ∧ ∀ x ∈ xs, Ty.wf t x
  | .slice t, xs => xs.length ≤ maxLen ∧ ∀ x ∈ xs, Ty.wf t x

/-- Does each slice have elements that take room? -/
def Ty.thick : Ty → Bool
  | .slice t => Nat.blt 0 t.size && t.thick
  | .one t | .arr _ t => t.thick
  | .pair a b => a.thick && b.thick
  | _ => true

section
variable {P : Program} {T : Tbl} {H : Type} {enc : TypeId × Value → H} {w : World} {base : Nat} {sp : Nat → Bool} {held : Bool}

theorem cells_td {t : TypeId} {d : TD} (h : TdOk P t d) : P.cellsOf t = d.size := by
  obtain ⟨i, h1, h2, _⟩ := h.info
  unfold Program.cellsOf
  rw [h1]; exact h2

/-- A list, from what is said place by place. -/
theorem build_list {α : Type} {Q : α → List Value → Prop} {c : Nat} : ∀ (n : Nat) (cs : List Value), cs.length = n * c → (∀ i, i < n → ∃ x, Q x ((cs.drop (i * c)).take c)) → ∃ (xs : List α) (css : List (List Value)), xs.length = n ∧ cs = css.flatten ∧ All2 Q xs css := by
  intro n
  induction n with
  | zero => intro cs hl _; rw [Nat.zero_mul] at hl; exact ⟨[], [], rfl, by simpa using hl, .nil⟩
  | succ n ih =>
    intro cs hl hq
    obtain ⟨x, hx⟩ := hq 0 (by omega)
    rw [Nat.zero_mul, List.drop_zero] at hx
    have hlen : (cs.drop c).length = n * c := by rw [List.length_drop, hl, Nat.succ_mul]; omega
    obtain ⟨xs, css, h1, h2, h3⟩ := ih (cs.drop c) hlen fun i hi => by
      obtain ⟨y, hy⟩ := hq (i + 1) (by omega)
      refine ⟨y, ?_⟩
      rw [List.drop_drop, show c + i * c = (i + 1) * c by rw [Nat.succ_mul]; omega]
      exact hy
    exact ⟨x :: xs, cs.take c :: css, by simp [h1], by rw [List.flatten_cons, ← h2, List.take_append_drop], .cons hx h3⟩

theorem read_seq (hT : TblOk P T) : ∀ (t : Ty), t.thick = true →
    (∀ (f : Nat × TypeId) (off : Nat), seqFits T t off [f] = true → ∀ (n : Nat) (cs : List Value) (y : DataW H × List MemPlace), DataW.trod enc P w base sp held n f.2 cs = some y →
      ∃ x : t.den, t.Rel (fun b => w.heap[b]?) (fun b => b < w.heap.size) x cs ∧ t.wf x) ∧
    (∀ (fs : List (Nat × TypeId)) (off : Nat), seqFits T t off fs = true → ∀ (n : Nat) (cs : List Value), (∀ f ∈ fs, ∃ y, DataW.trod enc P w base sp held n f.2 ((cs.drop f.1).take (P.cellsOf f.2)) = some y) →
      ∃ x : t.den, t.Rel (fun b => w.heap[b]?) (fun b => b < w.heap.size) x ((cs.drop off).take t.size) ∧ t.wf x) := by
  have single : ∀ (t : Ty), (∀ (f : Nat × TypeId) (off : Nat), seqFits T t off [f] = true → ∀ (n : Nat) (cs : List Value) (y : DataW H × List MemPlace), DataW.trod enc P w base sp held n f.2 cs = some y →
      ∃ x : t.den, t.Rel (fun b => w.heap[b]?) (fun b => b < w.heap.size) x cs ∧ t.wf x) →
      ∀ (f : Nat × TypeId) (off : Nat), seqFits T t off [f] = true → ∀ (n : Nat) (cs : List Value), (∀ g ∈ [f], ∃ y, DataW.trod enc P w base sp held n g.2 ((cs.drop g.1).take (P.cellsOf g.2)) = some y) →
      ∃ x : t.den, t.Rel (fun b => w.heap[b]?) (fun b => b < w.heap.size) x ((cs.drop off).take t.size) ∧ t.wf x := by
    intro t A f off hf n cs hy
    obtain ⟨y, hy⟩ := hy f (by simp)
    obtain ⟨h1, d, h2, _, h4⟩ := seqFits_one hf
    rw [cells_td (hT _ _ h2), h1, h4] at hy
    exact A f off hf n _ y hy
  -- what a struct's fields say
  have fields : ∀ (id : TypeId) (d : TD) (fs : List (Nat × TypeId)), T id = some d → d.und = .struct fs → ∀ (n : Nat) (cs : List Value) (y : DataW H × List MemPlace), DataW.trod enc P w base sp held n id cs = some y →
      cs.length = d.size ∧ ∃ m, ∀ f ∈ fs, ∃ y, DataW.trod enc P w base sp held m f.2 ((cs.drop f.1).take (P.cellsOf f.2)) = some y := by
    intro id d fs hd hu n cs y h
    have hok := hT _ _ hd
    have hund := hok.und
    rw [hu] at hund
    obtain ⟨fields, h1, h2, _⟩ := hund
    obtain ⟨xs, m, _, _, hl, hxl, hall⟩ := DataW.trod_struct h1 h
    refine ⟨by rw [hl, cells_td hok], m, fun f hf => ?_⟩
    rw [← h2, List.mem_map] at hf
    obtain ⟨fl, hfl, rfl⟩ := hf
    obtain ⟨i, hi⟩ := List.getElem?_of_mem hfl
    have hi' : fields[i]? = some fl := by simpa using hi
    have hlt : i < xs.length := by
      rw [hxl]
      rcases Nat.lt_or_ge i fields.size with h | h
      · exact h
      · rw [Array.getElem?_eq_none h] at hi'; cases hi'
    exact ⟨xs[i], by rw [hall i fl hi', List.getElem?_eq_getElem hlt]⟩
  intro t
  induction t with
  | int k =>
    intro _
    have A : ∀ (f : Nat × TypeId) (off : Nat), seqFits T (.int k) off [f] = true → ∀ (n : Nat) (cs : List Value) (y : DataW H × List MemPlace), DataW.trod enc P w base sp held n f.2 cs = some y → ∃ x : Ty.den (.int k), Ty.Rel (fun b => w.heap[b]?) (fun b => b < w.heap.size) (.int k) x cs ∧ Ty.wf (.int k) x := by
      intro f off hf n cs y h
      simp only [seqFits] at hf
      split at hf
      · rename_i k' he
        obtain ⟨_, d, h2, h3, _⟩ := hd?_inv he
        have hu := (hT _ _ h2).und
        rw [h3] at hu
        obtain rfl : k = k' := by simpa using hf
        obtain ⟨v, h4, _, h5⟩ := DataW.trod_int (show P.underlying f.2 = some (.int k) from hu) h
        exact ⟨v, h4, h5⟩
      · cases hf
    refine ⟨A, fun fs off hf n cs hy => ?_⟩
    match fs, hf, hy with
    | [f], hf, hy => exact single _ A f off hf n cs hy
  | bool =>
    intro _
    have A : ∀ (f : Nat × TypeId) (off : Nat), seqFits T .bool off [f] = true → ∀ (n : Nat) (cs : List Value) (y : DataW H × List MemPlace), DataW.trod enc P w base sp held n f.2 cs = some y → ∃ x : Ty.den .bool, Ty.Rel (fun b => w.heap[b]?) (fun b => b < w.heap.size) .bool x cs ∧ Ty.wf .bool x := by
      intro f off hf n cs y h
      simp only [seqFits] at hf
      split at hf
      · rename_i he
        obtain ⟨_, d, h2, h3, _⟩ := hd?_inv he
        have hu := (hT _ _ h2).und
        rw [h3] at hu
        obtain ⟨v, h4, _⟩ := DataW.trod_bool (show P.underlying f.2 = some .bool from hu) h
        exact ⟨v, h4, trivial⟩
      · cases hf
    refine ⟨A, fun fs off hf n cs hy => ?_⟩
    match fs, hf, hy with
    | [f], hf, hy => exact single _ A f off hf n cs hy
  | str =>
    intro _
    have A : ∀ (f : Nat × TypeId) (off : Nat), seqFits T .str off [f] = true → ∀ (n : Nat) (cs : List Value) (y : DataW H × List MemPlace), DataW.trod enc P w base sp held n f.2 cs = some y → ∃ x : Ty.den .str, Ty.Rel (fun b => w.heap[b]?) (fun b => b < w.heap.size) .str x cs ∧ Ty.wf .str x := by
      intro f off hf n cs y h
      simp only [seqFits] at hf
      split at hf
      · rename_i he
        obtain ⟨_, d, h2, h3, _⟩ := hd?_inv he
        have hu := (hT _ _ h2).und
        rw [h3] at hu
        obtain ⟨v, h4, _, h5⟩ := DataW.trod_string (show P.underlying f.2 = some .string from hu) h
        exact ⟨v, h4, h5⟩
      · cases hf
    refine ⟨A, fun fs off hf n cs hy => ?_⟩
    match fs, hf, hy with
    | [f], hf, hy => exact single _ A f off hf n cs hy
  | unit =>
    intro _
    have A : ∀ (f : Nat × TypeId) (off : Nat), seqFits T .unit off [f] = true → ∀ (n : Nat) (cs : List Value) (y : DataW H × List MemPlace), DataW.trod enc P w base sp held n f.2 cs = some y → ∃ x : Ty.den .unit, Ty.Rel (fun b => w.heap[b]?) (fun b => b < w.heap.size) .unit x cs ∧ Ty.wf .unit x := by
      intro f off hf n cs y h
      simp only [seqFits] at hf
      split at hf
      · rename_i he
        obtain ⟨_, d, h2, h3, h4⟩ := hd?_inv he
        obtain ⟨h5, _⟩ := fields _ _ _ h2 h3 n cs y h
        exact ⟨(), List.length_eq_zero_iff.1 (h5.trans h4), trivial⟩
      · cases hf
    refine ⟨A, fun fs off hf n cs hy => ?_⟩
    match fs, hf, hy with
    | [f], hf, hy => exact single _ A f off hf n cs hy
  | one e ih =>
    intro hth
    have ih := ih hth
    have A : ∀ (f : Nat × TypeId) (off : Nat), seqFits T (.one e) off [f] = true → ∀ (n : Nat) (cs : List Value) (y : DataW H × List MemPlace), DataW.trod enc P w base sp held n f.2 cs = some y → ∃ x : Ty.den (.one e), Ty.Rel (fun b => w.heap[b]?) (fun b => b < w.heap.size) (.one e) x cs ∧ Ty.wf (.one e) x := by
      intro f off hf n cs y h
      simp only [seqFits] at hf
      split at hf
      · rename_i g he
        obtain ⟨_, d, h2, h3, h4⟩ := hd?_inv he
        obtain ⟨h5, m, h6⟩ := fields _ _ _ h2 h3 n cs y h
        obtain ⟨x, h7, h8⟩ := ih.2 [g] 0 hf m cs h6
        rw [List.drop_zero, List.take_of_length_le (by rw [h5, h4]; exact Nat.le_refl _)] at h7
        exact ⟨x, h7, h8⟩
      · cases hf
    refine ⟨A, fun fs off hf n cs hy => ?_⟩
    match fs, hf, hy with
    | [f], hf, hy => exact single _ A f off hf n cs hy
  | pair a b iha ihb =>
    intro hth
    simp only [Ty.thick, Bool.and_eq_true] at hth
    have iha := iha hth.1
    have ihb := ihb hth.2
    have A : ∀ (f : Nat × TypeId) (off : Nat), seqFits T (.pair a b) off [f] = true → ∀ (n : Nat) (cs : List Value) (y : DataW H × List MemPlace), DataW.trod enc P w base sp held n f.2 cs = some y → ∃ x : Ty.den (.pair a b), Ty.Rel (fun b => w.heap[b]?) (fun b => b < w.heap.size) (.pair a b) x cs ∧ Ty.wf (.pair a b) x := by
      intro f off hf n cs y h
      simp only [seqFits] at hf
      split at hf
      · rename_i g h0 fs he
        rw [Bool.and_eq_true] at hf
        obtain ⟨_, d, h2, h3, h4⟩ := hd?_inv he
        obtain ⟨h5, m, h6⟩ := fields _ _ _ h2 h3 n cs y h
        obtain ⟨x, h7, h8⟩ := iha.2 [g] 0 hf.1 m cs fun q hq => h6 q (by simp at hq; simp [hq])
        obtain ⟨z, h9, h10⟩ := ihb.2 (h0 :: fs) a.size hf.2 m cs fun q hq => h6 q (by simp at hq ⊢; exact .inr hq)
        refine ⟨(x, z), ⟨_, _, ?_, h7, h9⟩, h8, h10⟩
        rw [List.drop_zero, List.take_of_length_le (l := cs.drop a.size) (by rw [List.length_drop, h5, h4]; omega), List.take_append_drop]
      · cases hf
    refine ⟨A, fun fs off hf n cs hy => ?_⟩
    match fs, hf, hy with
    | [f], hf, hy => exact single _ A f off hf n cs hy
    | f :: g :: fs, hf, hy =>
      simp only [seqFits, Bool.and_eq_true] at hf
      obtain ⟨x, h7, h8⟩ := iha.2 [f] off hf.1 n cs fun q hq => hy q (by simp at hq; simp [hq])
      obtain ⟨z, h9, h10⟩ := ihb.2 (g :: fs) (off + a.size) hf.2 n cs fun q hq => hy q (by simp at hq ⊢; exact .inr hq)
      refine ⟨(x, z), ⟨_, _, ?_, h7, h9⟩, h8, h10⟩
      show (cs.drop off).take (a.size + b.size) = _
      rw [List.take_add, List.drop_drop]
  | arr k e ih =>
    intro hth
    have ih := ih hth
    have A : ∀ (f : Nat × TypeId) (off : Nat), seqFits T (.arr k e) off [f] = true → ∀ (n : Nat) (cs : List Value) (y : DataW H × List MemPlace), DataW.trod enc P w base sp held n f.2 cs = some y → ∃ x : Ty.den (.arr k e), Ty.Rel (fun b => w.heap[b]?) (fun b => b < w.heap.size) (.arr k e) x cs ∧ Ty.wf (.arr k e) x := by
      intro f off hf n cs y h
      simp only [seqFits] at hf
      split at hf
      · rename_i m g he
        rw [Bool.and_eq_true] at hf
        obtain rfl := Nat.eq_of_beq_eq_true hf.1
        obtain ⟨_, d, h2, h3, h4⟩ := hd?_inv he
        have hu := (hT _ _ h2).und
        rw [h3] at hu
        obtain ⟨_, dg, h5, _, h6⟩ := seqFits_one hf.2
        have hcg : P.cellsOf g = e.size := (cells_td (hT _ _ h5)).trans h6
        obtain ⟨xs, q, _, _, hl, hxl, hall⟩ := DataW.trod_array (show P.underlying f.2 = some (.array m g) from hu) h
        obtain ⟨zs, css, h7, h8, h9⟩ := build_list (Q := fun x c => Ty.Rel (fun b => w.heap[b]?) (fun b => b < w.heap.size) e x c ∧ e.wf x) (c := e.size) m cs (by rw [hl, cells_td (hT _ _ h2), h4]) fun i hi => by
          have := hall i hi
          rw [hcg, List.getElem?_eq_getElem (by rw [hxl]; exact hi)] at this
          exact ih.1 (0, g) 0 hf.2 q _ _ this
        refine ⟨zs, ⟨h7, css, h8, h9.mono fun _ _ h => h.1⟩, h7, fun x hx => ?_⟩
        obtain ⟨i, hi⟩ := List.getElem?_of_mem hx
        obtain ⟨c, _, hc⟩ := h9.get hi
        exact hc.2
      · cases hf
    refine ⟨A, fun fs off hf n cs hy => ?_⟩
    match fs, hf, hy with
    | [f], hf, hy => exact single _ A f off hf n cs hy
  | slice e ih =>
    intro hth
    simp only [Ty.thick, Bool.and_eq_true] at hth
    have hc0 : 0 < e.size := by simpa [Nat.blt_eq] using hth.1
    have ih := ih hth.2
    have A : ∀ (f : Nat × TypeId) (off : Nat), seqFits T (.slice e) off [f] = true → ∀ (n : Nat) (cs : List Value) (y : DataW H × List MemPlace), DataW.trod enc P w base sp held n f.2 cs = some y → ∃ x : Ty.den (.slice e), Ty.Rel (fun b => w.heap[b]?) (fun b => b < w.heap.size) (.slice e) x cs ∧ Ty.wf (.slice e) x := by
      intro f off hf n cs y h
      simp only [seqFits] at hf
      split at hf
      · rename_i g he
        obtain ⟨_, d, h2, h3, h4⟩ := hd?_inv he
        have hu := (hT _ _ h2).und
        rw [h3] at hu
        obtain ⟨_, dg, h5, _, h6⟩ := seqFits_one hf
        have hcg : P.cellsOf g = e.size := (cells_td (hT _ _ h5)).trans h6
        rcases DataW.trod_slice (show P.underlying f.2 = some (.slice g) from hu) h with ⟨rfl, _⟩ | ⟨a, len, cap, elems, rest, m, _, rfl, _, _, hle, hcap, hel, hall, _⟩
        · exact ⟨[], ⟨none, 0, 0, rfl, rfl, Nat.le_refl _, fun _ => rfl, fun h => absurd h (Nat.lt_irrefl _)⟩, Nat.zero_le _, fun x hx => by cases hx⟩
        rw [hcg] at hall
        by_cases hlen : len = 0
        · subst hlen
          exact ⟨[], ⟨some a, 0, cap, rfl, rfl, Nat.zero_le _, (fun e => by cases e), fun h => absurd h (Nat.lt_irrefl _)⟩, Nat.zero_le _, fun x hx => by cases hx⟩
        -- each element's cells
        have chunk : ∀ i, i < len → ∃ ch y, (ch.length = e.size ∧ ∀ j, j < e.size → w.cell? ((a.add (i * e.size)).add j) = ch[j]?) ∧ DataW.trod enc P w base sp held m g ch = some y := by
          intro i hi
          have := hall i hi
          rw [List.getElem?_eq_getElem (by omega)] at this
          cases hch : w.cells? base (a.add (i * e.size)) e.size with
          | none => rw [hch] at this; cases this
          | some ch => rw [hch] at this; exact ⟨ch, _, (World.cells?_some hch).2, this⟩
        obtain ⟨ch0, _, ⟨hl0, hg0⟩, _⟩ := chunk 0 (by omega)
        have hcell := hg0 0 hc0
        rw [Nat.zero_mul] at hcell
        have ha0 : (a.add 0).add 0 = a := by simp [Addr.add]
        rw [ha0, List.getElem?_eq_getElem (by omega)] at hcell
        obtain ⟨b, o, spot⟩ := a
        unfold World.cell? at hcell
        simp only at hcell
        cases hb : w.heap[b]? with
        | none => rw [hb] at hcell; cases hcell
        | some ob =>
          rw [hb] at hcell
          cases ob with
          | cells C et fr =>
            simp only at hcell
            have hspot : spot = none := by
              cases spot with
              | none => rfl
              | some q => simp at hcell
            subst hspot
            have at_ : ∀ i, i < len → ∀ j, j < e.size → ∀ ch : List Value, w.cell? (((⟨b, o, none⟩ : Addr).add (i * e.size)).add j) = ch[j]? → C[o + (i * e.size + j)]? = ch[j]? := by
              intro i _ j _ ch hq
              rw [add_mk, add_mk, cell_of_heap hb, Nat.add_assoc] at hq
              exact hq
            have hlt : ∀ j, j < len * e.size → o + j < C.size := by
              intro j hj
              have hi : j / e.size < len := by rw [Nat.div_lt_iff_lt_mul hc0]; exact hj
              obtain ⟨ch, _, ⟨hl, hg⟩, _⟩ := chunk (j / e.size) hi
              have hm := Nat.mod_lt j hc0
              have := at_ _ hi (j % e.size) hm ch (hg _ hm)
              rw [List.getElem?_eq_getElem (by omega)] at this
              have := (Array.getElem?_eq_some_iff.1 this).1
              have e1 : j / e.size * e.size + j % e.size = j := by rw [Nat.mul_comm]; exact Nat.div_add_mod j e.size
              omega
            have hrow : ((C.toList.drop o).take (len * e.size)).length = len * e.size := by
              rw [List.length_take, List.length_drop]
              have := hlt (len * e.size - 1) (by have := Nat.mul_pos (Nat.pos_of_ne_zero hlen) hc0; omega)
              simp only [Array.length_toList]
              omega
            have hget : ∀ j, j < len * e.size → ((C.toList.drop o).take (len * e.size))[j]? = C[o + j]? := by
              intro j hj
              rw [List.getElem?_take, if_pos hj, List.getElem?_drop]
              simp
            obtain ⟨zs, css, h7, h8, h9⟩ := build_list (Q := fun x c => Ty.Rel (fun b => w.heap[b]?) (fun b => b < w.heap.size) e x c ∧ e.wf x) (c := e.size) len _ hrow fun i hi => by
              obtain ⟨ch, y, ⟨hl, hg⟩, ht⟩ := chunk i hi
              have hch : (((C.toList.drop o).take (len * e.size)).drop (i * e.size)).take e.size = ch := by
                apply List.ext_getElem?
                intro j
                rcases Nat.lt_or_ge j e.size with hj | hj
                · have hij : i * e.size + j < len * e.size := by
                    have : (i + 1) * e.size ≤ len * e.size := Nat.mul_le_mul_right _ hi
                    rw [Nat.succ_mul] at this; omega
                  rw [List.getElem?_take, if_pos hj, List.getElem?_drop, hget _ hij]
                  exact at_ i hi j hj ch (hg j hj)
                · rw [List.getElem?_eq_none (by rw [List.length_take]; omega), List.getElem?_eq_none (by omega)]
              rw [hch]
              exact ih.1 (0, g) 0 hf m _ _ ht
            refine ⟨zs, ⟨some ⟨b, o, none⟩, len, cap, rfl, h7.symm, hle, (fun e => by cases e), fun _ => ⟨b, o, rfl, by simpa using (Array.getElem?_eq_some_iff.1 hb).1, css, ⟨C, et, fr, hb, fun j v hv => ?_⟩, h9.mono fun _ _ h => h.1⟩⟩, by rw [h7]; exact Nat.le_trans hle hcap, fun x hx => ?_⟩
            · rw [← h8] at hv
              have hj : j < len * e.size := by rw [← hrow]; exact (List.getElem?_eq_some_iff.1 hv).1
              rw [hget j hj] at hv
              exact hv
            · obtain ⟨i, hi⟩ := List.getElem?_of_mem hx
              obtain ⟨c, _, hc⟩ := h9.get hi
              exact hc.2
          | _ => cases hcell
      · cases hf
    refine ⟨A, fun fs off hf n cs hy => ?_⟩
    match fs, hf, hy with
    | [f], hf, hy => exact single _ A f off hf n cs hy

theorem cells_self {r : Reach} {b0 : Nat} {t : TypeId} {v : Value} (hu : P.underlying t = some .bool ∨ P.underlying t = some .string ∨ (∃ k, P.underlying t = some (.int k)) ∨ ∃ e, P.underlying t = some (.slice e)) (hval : Value.okWide P w r b0 t v) : v.cells.toList = [v] := by
  unfold Value.okWide at hval
  rcases hu with hu | hu | ⟨k, hu⟩ | ⟨e, hu⟩ <;> rw [hu] at hval <;> simp only at hval <;> unfold Cell.okWide Cell.ok at hval <;> rw [hu] at hval <;> cases v <;> first
    | rfl
    | exact hval.elim

/-- An argument, read: data that lie where the argument says. -/
theorem read_arg (hT : TblOk P T) {t : Ty} {id : TypeId} (hf : fits T t id = true) (hth : t.thick = true) {r : Reach} {b0 : Nat} {v : Value} {d : DataW H} {ps : List MemPlace} (hval : Value.okWide P w r b0 id v) (hd : DataW.Trod enc P w base sp held id v d ps) :
    ∃ x : t.den, (AVal.dat false t x).V (ctx0 w) v ∧ t.wf x := by
  obtain ⟨fuel, hd⟩ := hd
  obtain ⟨x, h1, h2⟩ := (read_seq hT t hth).1 (0, id) 0 hf fuel _ _ hd
  refine ⟨x, ?_, h2⟩
  have h1 : t.Rel (ctx0 w).h ((ctx0 w).S false) x v.cells.toList := Ty.Rel.congr (fun b hb => ⟨hb, rfl⟩) _ _ _ h1
  have one : t.agg = false → v.cells.toList = [v] → (AVal.dat false t x).V (ctx0 w) v := by
    intro ha e
    unfold AVal.V
    rw [if_neg (by show ¬ t.agg = true; rw [ha]; simp), ← e]
    exact h1
  have many : t.agg = true → (∃ cs, v = .agg cs) → (AVal.dat false t x).V (ctx0 w) v := by
    rintro ha ⟨cs, rfl⟩
    unfold AVal.V
    rw [if_pos (show (AVal.dat false t x).agg = true from ha)]
    exact ⟨cs, rfl, h1⟩
  have undAt : ∀ {u : Und} {sz : Nat}, hd? T sz 0 (0, id) = some u → UndOk P id u := by
    intro u sz he
    obtain ⟨_, dd, h3, h4, _⟩ := hd?_inv he
    rw [← h4]; exact (hT _ _ h3).und
  unfold fits at hf
  cases t with
  | int k =>
    simp only [seqFits] at hf
    split at hf
    · rename_i k' he; exact one rfl (cells_self (.inr (.inr (.inl ⟨k', undAt he⟩))) hval)
    · cases hf
  | bool =>
    simp only [seqFits] at hf
    split at hf
    · rename_i he; exact one rfl (cells_self (.inl (undAt he)) hval)
    · cases hf
  | str =>
    simp only [seqFits] at hf
    split at hf
    · rename_i he; exact one rfl (cells_self (.inr (.inl (undAt he))) hval)
    · cases hf
  | slice e =>
    simp only [seqFits] at hf
    split at hf
    · rename_i g he; exact one rfl (cells_self (.inr (.inr (.inr ⟨g, undAt he⟩))) hval)
    · cases hf
  | unit =>
    simp only [seqFits] at hf
    split at hf
    · rename_i he
      obtain ⟨fields, hu, _⟩ := undAt he
      unfold Value.okWide at hval
      rw [hu] at hval
      obtain ⟨cs, rfl, _⟩ := hval
      exact many rfl ⟨cs, rfl⟩
    · cases hf
  | one e =>
    simp only [seqFits] at hf
    split at hf
    · rename_i g he
      obtain ⟨fields, hu, _⟩ := undAt he
      unfold Value.okWide at hval
      rw [hu] at hval
      obtain ⟨cs, rfl, _⟩ := hval
      exact many rfl ⟨cs, rfl⟩
    · cases hf
  | pair a b =>
    simp only [seqFits] at hf
    split at hf
    · rename_i g h0 fs he
      obtain ⟨fields, hu, _⟩ := undAt he
      unfold Value.okWide at hval
      rw [hu] at hval
      obtain ⟨cs, rfl, _⟩ := hval
      exact many rfl ⟨cs, rfl⟩
    · cases hf
  | arr n e =>
    simp only [seqFits] at hf
    split at hf
    · rename_i m g he
      have hu : P.underlying id = some (.array m g) := undAt he
      unfold Value.okWide at hval
      rw [hu] at hval
      obtain ⟨cs, rfl, _⟩ := hval
      exact many rfl ⟨cs, rfl⟩
    · cases hf

/-- Do the elements of each slice take room? -/
def slicesThick (P : Program) : Bool := (List.range P.types.size).all fun t => match P.underlying t with
  | some (.slice e) => Nat.blt 0 (P.cellsOf e)
  | _ => true

/-- What was read reads as it did. -/
theorem args_back (hl : laidOutB P = true) (hm : mapsRowed P = true) (hs : slicesThick P = true) {w' : World} (calm : Calm w w') {sp' : Nat → Bool} :
    ∀ {ts : List TypeId} {vs : List Value} {ds : List (DataW H)} {ps : List MemPlace}, ts.all (fun t => Nat.blt t P.types.size) = true → DataW.TrodAll enc P w 0 (fun _ => true) true ts vs ds ps → (∀ p ∈ ps, sp' p.block = true) → DataW.TrodAll enc P w' 0 sp' true ts vs ds ps := by
  intro ts
  induction ts with
  | nil =>
    intro vs ds ps _ h _
    obtain ⟨rfl, rfl, rfl⟩ := trodAll_nil h
    exact rfl
  | cons t ts ih =>
    intro vs ds ps ht h hsp
    rw [List.all_cons, Bool.and_eq_true] at ht
    obtain ⟨v, vs1, d, ds1, a, b, rfl, rfl, rfl, ⟨n, h1⟩, h2⟩ := trodAll_cons h
    refine ⟨a, b, ⟨n, ?_⟩, ih ht.2 h2 fun p hp => hsp p (by simp [hp]), rfl⟩
    refine DataW.trod_stays (kids_rows hl hm) (fun {t e} h3 h4 => ?_) (fun e => by cases e) (by simpa [Nat.blt_eq] using ht.1) h1 (fun p hp => ?_) fun p hp => hsp p (by simp [hp])
    · have := List.all_eq_true.1 hs t (List.mem_range.2 h3)
      rw [h4] at this
      simpa [Nat.blt_eq] using this
    · have hlt := DataW.trod_lt _ _ _ _ h1 p hp
      cases p with
      | cell b off =>
        show w'.cell? _ = w.cell? _
        have e : w'.heap[b]? = w.heap[b]? := calm.heap b hlt
        unfold World.cell?
        simp only [e]
      | map b => exact calm.heap b hlt
end
end Go.Am
