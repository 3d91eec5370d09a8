/- Helps for plain laws: loops over an index; maps. -/
import Derived.Test.YtiecnmmffplgcaaAmZG
namespace Go.Am

/-- A loop over an index: at each step an answer, or what goes on. -/
def forI {S R : Type} (f : Nat → S → Option R ⊕ S) (fin : S → Option R) : Nat → Nat → S → Option R
  | 0, _, s => fin s
  | k + 1, i, s => match f i s with
    | .inl r => r
    | .inr s' => forI f fin k (i + 1) s'

theorem for_loop {S R X : Type} {L : Nat → X → Option R} {step : (X → Option R) → X → Option R} (hL : ∀ n x, L (n + 1) x = step (L n) x) (st : Nat → S → X) (len : Nat) (I : Nat → S → Prop) (f : Nat → S → Option R ⊕ S) (fin : S → Option R)
    (h1 : ∀ F i s, i < len → I i s → step F (st i s) = match f i s with | .inl r => r | .inr s' => F (st (i + 1) s'))
    (h2 : ∀ F s, I len s → step F (st len s) = fin s)
    (hI : ∀ i s s', i < len → I i s → f i s = .inr s' → I (i + 1) s') :
    ∀ (k i : Nat) (s : S) (n : Nat), i + k = len → k < n → I i s → L n (st i s) = forI f fin k i s := by
  intro k
  induction k with
  | zero =>
    intro i s n hi hn hs
    obtain ⟨n, rfl⟩ : ∃ m, n = m + 1 := ⟨n - 1, by omega⟩
    obtain rfl : i = len := by omega
    rw [hL, h2 _ _ hs]; rfl
  | succ k ih =>
    intro i s n hi hn hs
    obtain ⟨n, rfl⟩ : ∃ m, n = m + 1 := ⟨n - 1, by omega⟩
    rw [hL, h1 _ _ _ (by omega) hs]
    unfold forI
    cases hf : f i s with
    | inl r => rfl
    | inr s' => exact ih (i + 1) s' n (by omega) (by omega) (hI i s s' (by omega) hs hf)

/-- A loop that only goes on. -/
def foldI {S : Type} (g : Nat → S → S) : Nat → Nat → S → S
  | 0, _, s => s
  | k + 1, i, s => foldI g k (i + 1) (g i s)
theorem forI_fold {S R : Type} (g : Nat → S → S) (fin : S → Option R) : ∀ k i s, forI (fun i s => .inr (g i s)) fin k i s = fin (foldI g k i s)
  | 0, _, _ => rfl
  | k + 1, i, s => forI_fold g fin k (i + 1) (g i s)
/-- Over a list. -/
theorem foldI_list {S α : Type} (l : List α) (g : S → α → S) (d : α) : ∀ (k i : Nat) (s : S), i + k = l.length → foldI (fun i s => g s (l.getD i d)) k i s = (l.drop i).foldl g s
  | 0, i, s, h => by rw [List.drop_eq_nil_of_le (by omega)]; rfl
  | k + 1, i, s, h => by
    rw [List.drop_eq_getElem_cons (by omega), List.foldl_cons]
    show foldI _ k (i + 1) _ = _
    rw [foldI_list l g d k (i + 1) _ (by omega)]
    simp only [List.getD_eq_getElem?_getD, List.getElem?_eq_getElem (show i < l.length by omega), Option.getD_some]

/-- A loop over a list that may end with an answer. -/
def forL {S R α : Type} (f : S → α → Option R ⊕ S) (fin : S → Option R) : List α → S → Option R
  | [], s => fin s
  | x :: l, s => match f s x with
    | .inl r => r
    | .inr s' => forL f fin l s'
theorem forI_list {S R α : Type} (l : List α) (f : S → α → Option R ⊕ S) (fin : S → Option R) (d : α) : ∀ (k i : Nat) (s : S), i + k = l.length → forI (fun i s => f s (l.getD i d)) fin k i s = forL f fin (l.drop i) s
  | 0, i, s, h => by rw [List.drop_eq_nil_of_le (by omega)]; rfl
  | k + 1, i, s, h => by
    rw [List.drop_eq_getElem_cons (by omega)]
    unfold forI forL
    rw [show l.getD i d = l[i]'(by omega) by rw [List.getD_eq_getElem?_getD, List.getElem?_eq_getElem (by omega)]; rfl]
    cases f s (l[i]'(by omega)) with
    | inl r => rfl
    | inr s' => exact forI_list l f fin d k (i + 1) s' (by omega)
/-- A loop through a list by an index. -/
theorem list_loop {S R X α : Type} {L : Nat → X → Option R} {step : (X → Option R) → X → Option R} (hL : ∀ n x, L (n + 1) x = step (L n) x) (l : List α) (st : Nat → S → X) (I : S → Prop) (f : S → α → Option R ⊕ S) (fin : S → Option R)
    (h1 : ∀ F i s, (h : i < l.length) → I s → step F (st i s) = match f s l[i] with | .inl r => r | .inr s' => F (st (i + 1) s'))
    (h2 : ∀ F s, I s → step F (st l.length s) = fin s)
    (hI : ∀ x s s', x ∈ l → I s → f s x = .inr s' → I s') (s : S) (hs : I s) (n : Nat) (hn : l.length < n) : L n (st 0 s) = forL f fin l s := by
  have : ∀ (k i : Nat) (s : S) (n : Nat), i + k = l.length → k < n → I s → L n (st i s) = forL f fin (l.drop i) s := by
    intro k
    induction k with
    | zero =>
      intro i s n hi hn hs
      obtain ⟨n, rfl⟩ : ∃ m, n = m + 1 := ⟨n - 1, by omega⟩
      obtain rfl : i = l.length := by omega
      rw [hL, h2 _ _ hs, List.drop_length]; rfl
    | succ k ih =>
      intro i s n hi hn hs
      obtain ⟨n, rfl⟩ : ∃ m, n = m + 1 := ⟨n - 1, by omega⟩
      have hl : i < l.length := by omega
      rw [hL, h1 _ _ _ hl hs, List.drop_eq_getElem_cons hl]
      unfold forL
      cases hf : f s l[i] with
      | inl r => rfl
      | inr s' => exact ih (i + 1) s' n (by omega) (by omega) (hI _ s s' (List.getElem_mem hl) hs hf)
  simpa using this l.length 0 s n (by omega) hn hs
/-- One that looks whether all are so, and gathers. -/
theorem forL_gather {S R α : Type} (p : α → Bool) (g : S → α → S) (no : Option R) (fin : S → Option R) : ∀ (l : List α) (s : S), forL (fun s x => bif p x then .inr (g s x) else .inl no) fin l s = bif l.all p then fin (l.foldl g s) else no
  | [], s => rfl
  | x :: l, s => by
    unfold forL
    cases hp : p x
    · simp [hp]
    · simp only [cond_true, List.all_cons, hp, Bool.true_and, List.foldl_cons]
      exact forL_gather p g no fin l (g s x)
/-- One that only gathers. -/
theorem forL_fold {S R α : Type} (g : S → α → S) (fin : S → Option R) : ∀ (l : List α) (s : S), forL (fun s x => .inr (g s x)) fin l s = fin (l.foldl g s)
  | [], _ => rfl
  | x :: l, s => forL_fold g fin l (g s x)
/-- One that looks whether all are so. -/
theorem forL_all {R α : Type} (p : α → Bool) (no yes : Option R) : ∀ l : List α, forL (fun (_ : Unit) x => bif p x then .inr () else .inl no) (fun _ => yes) l () = bif l.all p then yes else no
  | [] => rfl
  | x :: l => by
    unfold forL
    cases hp : p x
    · simp [hp]
    · simp only [cond_true, List.all_cons, hp, Bool.true_and]
      exact forL_all p no yes l

section
variable {K V : Ty}
/-- What a map says, and that it is whole. -/
structure Whole (d : MD K V) : Prop where
  len : d.2.1.length = d.1.length
  nodup : d.2.1.Nodup
  below : ∀ b ∈ d.2.1, b < d.2.2
theorem whole_nil : Whole (K := K) (V := V) ([], [], 0) := ⟨rfl, List.nodup_nil, fun _ h => by cases h⟩

theorem midx_none {k : K.den} : ∀ {l : List (K.den × V.den)}, midx K V k l = none ↔ ∀ e ∈ l, K.eqB k e.1 = false
  | [] => by simp [midx]
  | e :: l => by
    simp only [midx, List.mem_cons, forall_eq_or_imp]
    cases hk : K.eqB k e.1 with
    | true => simp
    | false =>
      simp only [cond_false, true_and]
      rw [← midx_none (k := k) (l := l)]
      cases midx K V k l <;> simp
theorem findIdx_at {b : Nat} : ∀ {l : List Nat} {i : Nat}, l.Nodup → l[i]? = some b → l.findIdx? (fun (c : Nat) => (c : Int) == (b : Int)) = some i
  | [], i, _, h => by simp at h
  | c :: l, 0, _, h => by
    obtain rfl : c = b := by simpa using h
    rw [List.findIdx?_cons, if_pos (by simp)]
  | c :: l, i + 1, hn, h => by
    simp only [List.getElem?_cons_succ] at h
    rw [List.nodup_cons] at hn
    have : c ≠ b := fun e => hn.1 (e ▸ List.mem_of_getElem? h)
    rw [List.findIdx?_cons, if_neg (by simpa [Int.ofNat_inj] using this), findIdx_at hn.2 h]; rfl

/-- An entry, and then its value: as if it were put there. -/
theorem bump_eq (keys : ∀ k k' : K.den, K.eqB k k' = true → k = k') (k : K.den) (z v : V.den) (d : MD K V) (w : Whole d) : mstore K V (ment K V k z d).1.2 v (ment K V k z d).2 = some (mput K V k v d) := by
  obtain ⟨m, bs, clk⟩ := d
  unfold ment mput mstore
  cases hi : midx K V k m with
  | some i =>
    have hl := midx_lt K V k m i hi
    have hb : bs[i]? = some (bs.getD i 0) := by rw [List.getD_eq_getElem?_getD, List.getElem?_eq_getElem (by have := w.len; simp at this; omega)]; rfl
    simp only
    rw [findIdx_at w.nodup hb]
    simp only [Option.some.injEq, Prod.mk.injEq, and_true]
    apply List.ext_getElem?
    intro j
    rw [List.getElem?_modify, List.getElem?_set]
    split
    · rename_i ij
      subst ij
      have e1 := midx_eq k m i hi (List.getElem?_eq_getElem hl)
      rw [List.getElem?_eq_getElem hl]
      simp [keys _ _ e1, hl]
    · rename_i ij; cases m[j]? <;> simp [ij]
  | none =>
    have hn : (bs ++ [clk]).Nodup := List.nodup_append.2 ⟨w.nodup, by simp, fun a ha b hb => by
      simp at hb; subst hb
      have := w.below a ha
      simp at this; omega⟩
    have hl : m.length = bs.length := w.len.symm
    simp only
    rw [findIdx_at (i := bs.length) hn (by simp)]
    simp only [Option.some.injEq, Prod.mk.injEq, and_true]
    apply List.ext_getElem?
    intro j
    rw [List.getElem?_modify]
    by_cases h1 : j < m.length
    · rw [List.getElem?_append_left h1, List.getElem?_append_left h1]
      have : bs.length ≠ j := by omega
      cases m[j]? <;> simp [this]
    · rw [List.getElem?_append_right (by omega), List.getElem?_append_right (by omega)]
      cases hj : j - m.length with
      | zero =>
        have : bs.length = j := by omega
        simp [this]
      | succ q => rfl

theorem whole_mput (k : K.den) (v : V.den) (d : MD K V) (w : Whole d) : Whole (mput K V k v d) := by
  obtain ⟨m, bs, clk⟩ := d
  unfold mput
  cases midx K V k m with
  | some i => exact ⟨by simpa using w.len, w.nodup, w.below⟩
  | none =>
    refine ⟨by have := w.len; simp at this; simp [this], List.nodup_append.2 ⟨w.nodup, by simp, fun a ha b hb => ?_⟩, fun b hb => ?_⟩
    · simp at hb; subst hb
      have := w.below a ha
      simp at this; omega
    · simp only [List.mem_append, List.mem_singleton] at hb
      rcases hb with hb | rfl
      · have := w.below b hb; simp at this; simp only; omega
      · simp

theorem mfind_append (k : K.den) : ∀ (l l' : List (K.den × V.den)), mfind K V k (l ++ l') = (mfind K V k l).orElse fun _ => mfind K V k l'
  | [], l' => by simp [mfind]
  | e :: l, l' => by
    simp only [List.cons_append, mfind]
    cases K.eqB k e.1
    · exact mfind_append k l l'
    · rfl

/-- What is found behind a putting. -/
theorem mfind_mput [DecidableEq K.den] (same : ∀ k k' : K.den, K.eqB k k' = decide (k = k')) (k k' : K.den) (v : V.den) (d : MD K V) : mfind K V k' (mput K V k v d).1 = if k' = k then some v else mfind K V k' d.1 := by
  obtain ⟨m, bs, clk⟩ := d
  unfold mput
  cases hi : midx K V k m with
  | none =>
    simp only
    rw [mfind_append]
    have hno := midx_none.1 hi
    by_cases e : k' = k
    · subst e
      have : mfind K V k' m = none := by
        rw [mfind_idx, hi]; rfl
      rw [this, if_pos rfl]
      simp [mfind, same]
    · rw [if_neg e]
      simp [mfind, same, e]
  | some i =>
    simp only
    -- the list with that entry's value
    have aux : ∀ (m : List (K.den × V.den)) (i : Nat), midx K V k m = some i → mfind K V k' (m.set i (k, v)) = if k' = k then some v else mfind K V k' m := by
      intro m
      induction m with
      | nil => intro i h; cases h
      | cons e m ih =>
        intro i h
        simp only [midx, same] at h
        by_cases c : k = e.1
        · rw [decide_eq_true c] at h
          cases h
          simp only [List.set_cons_zero, mfind, same]
          by_cases e' : k' = k
          · rw [decide_eq_true e', if_pos e']; rfl
          · rw [decide_eq_false e', if_neg e', ← c, decide_eq_false e']; rfl
        · rw [decide_eq_false c] at h
          simp only [cond_false] at h
          split at h
          · rename_i j hj
            cases h
            simp only [List.set_cons_succ, mfind, same]
            by_cases e' : k' = e.1
            · have : k' ≠ k := fun g => c (g ▸ e')
              rw [decide_eq_true e', if_neg this]; rfl
            · rw [decide_eq_false e']
              exact ih j hj
          · cases h
    exact aux m i hi

/-- The keys, in the order in which they came. -/
def kadd {α : Type} [DecidableEq α] (ks : List α) (k : α) : List α := if k ∈ ks then ks else ks ++ [k]
theorem keys_mput [DecidableEq K.den] (same : ∀ k k' : K.den, K.eqB k k' = decide (k = k')) (k : K.den) (v : V.den) (d : MD K V) : (mput K V k v d).1.map (·.1) = kadd (d.1.map (·.1)) k := by
  obtain ⟨m, bs, clk⟩ := d
  unfold mput kadd
  cases hi : midx K V k m with
  | none =>
    have hno := midx_none.1 hi
    rw [if_neg]
    · simp
    · intro h
      simp only [List.mem_map] at h
      obtain ⟨e, he, e1⟩ := h
      have := hno e he
      rw [same, e1] at this
      simp at this
  | some i =>
    have hl := midx_lt K V k m i hi
    have e1 := midx_eq k m i hi (List.getElem?_eq_getElem hl)
    rw [same] at e1
    have e1 := of_decide_eq_true e1
    rw [if_pos (List.mem_map.2 ⟨m[i], List.getElem_mem hl, e1.symm⟩)]
    simp only
    rw [List.map_set]
    apply set_same
    rw [List.getElem?_map, List.getElem?_eq_getElem hl, e1]; rfl
theorem kadd_len {α : Type} [DecidableEq α] : ∀ (l : List α) (ks : List α), ks.Nodup → (l.foldl kadd ks).length ≤ ks.length + l.length ∧ ((l.foldl kadd ks).length = ks.length + l.length ↔ (ks ++ l).Nodup)
  | [], ks, h => by simp [h]
  | x :: l, ks, h => by
    rw [List.foldl_cons]
    by_cases c : x ∈ ks
    · have e : kadd ks x = ks := if_pos c
      rw [e]
      have ih := kadd_len l ks h
      refine ⟨by simp only [List.length_cons]; omega, ⟨fun g => ?_, fun g => ?_⟩⟩
      · simp only [List.length_cons] at g; omega
      · exfalso
        rw [List.nodup_append] at g
        exact g.2.2 x c x (by simp) rfl
    · have e : kadd ks x = ks ++ [x] := if_neg c
      rw [e]
      have hn : (ks ++ [x]).Nodup := List.nodup_append.2 ⟨h, by simp, fun a ha b hb => by simp at hb; subst hb; exact fun g => c (g ▸ ha)⟩
      have ih := kadd_len l (ks ++ [x]) hn
      rw [List.append_assoc, List.singleton_append, List.length_append, List.length_singleton] at ih
      simp only [List.length_cons]
      exact ⟨by omega, by rw [← ih.2]; omega⟩
end

section ranges
variable {A S R : Type}
theorem mleft_mem {seen : List Nat} {b : Nat} {e : A} : ∀ {m : List A} {bs : List Nat}, (b, e) ∈ mleft seen m bs → b ∈ bs ∧ e ∈ m
  | [], bs, h => by cases bs <;> cases h
  | x :: m, [], h => by cases h
  | x :: m, c :: bs, h => by
    simp only [mleft] at h
    cases hc : seen.contains c with
    | true => rw [hc] at h; have := mleft_mem h; exact ⟨by simp [this.1], by simp [this.2]⟩
    | false =>
      rw [hc] at h
      rcases List.mem_cons.1 h with h | h
      · cases h; simp
      · have := mleft_mem h; exact ⟨by simp [this.1], by simp [this.2]⟩
theorem mleft_skip {seen : List Nat} {b : Nat} : ∀ {m : List A} {bs : List Nat}, b ∉ bs → mleft (b :: seen) m bs = mleft seen m bs
  | [], bs, h => by cases bs <;> rfl
  | x :: m, [], h => rfl
  | x :: m, c :: bs, h => by
    rw [List.mem_cons, not_or] at h
    have ih := mleft_skip (seen := seen) (m := m) h.2
    have e : (b :: seen).contains c = seen.contains c := by
      rw [List.contains_cons]
      have : (c == b) = false := by simpa using fun e : c = b => h.1 e.symm
      rw [this, Bool.false_or]
    simp only [mleft, e, ih]
theorem mleft_take {seen : List Nat} {b : Nat} {e : A} : ∀ {m : List A} {bs : List Nat}, bs.Nodup → (b, e) ∈ mleft seen m bs → (mleft seen m bs).Perm ((b, e) :: mleft (b :: seen) m bs) ∧ mstamp m bs b = some e
  | [], bs, _, h => by cases bs <;> cases h
  | x :: m, [], _, h => by cases h
  | x :: m, c :: bs, hn, h => by
    rw [List.nodup_cons] at hn
    simp only [mleft] at h ⊢
    have ne : b ∈ bs → Nat.beq c b = false := fun hb => by
      cases hq : Nat.beq c b with
      | false => rfl
      | true => exact absurd (Nat.eq_of_beq_eq_true hq ▸ hb) hn.1
    cases hc : seen.contains c with
    | true =>
      rw [hc] at h
      obtain ⟨h1, h2⟩ := mleft_take hn.2 h
      have hb := ne (mleft_mem h).1
      have e1 : (b :: seen).contains c = true := by simp only [List.contains_cons, hc, Bool.or_true]
      rw [e1]
      exact ⟨h1, by simp only [mstamp, hb]; exact h2⟩
    | false =>
      rw [hc] at h
      by_cases hbc : b = c
      · subst hbc
        have he : e = x := by
          rcases List.mem_cons.1 h with h | h
          · cases h; rfl
          · exact absurd (mleft_mem h).1 hn.1
        subst he
        have e1 : (b :: seen).contains b = true := by simp
        rw [e1]
        simp only [cond_true, cond_false, mleft_skip hn.1]
        exact ⟨List.Perm.refl _, by simp only [mstamp, Nat.beq_refl, cond_true]⟩
      · have h : (b, e) ∈ mleft seen m bs := by
          rcases List.mem_cons.1 h with h | h
          · cases h; exact absurd rfl hbc
          · exact h
        obtain ⟨h1, h2⟩ := mleft_take hn.2 h
        have hb := ne (mleft_mem h).1
        have e1 : (b :: seen).contains c = false := by
          rw [List.contains_cons, hc, Bool.or_false]
          simpa using fun e => hbc e.symm
        rw [e1]
        simp only [cond_false]
        exact ⟨(h1.cons _).trans (.swap _ _ _), by simp only [mstamp, hb]; exact h2⟩
theorem mleft_nil : ∀ {m : List A} {bs : List Nat}, bs.length = m.length → (mleft [] m bs).map (·.2) = m
  | [], bs, h => by cases bs <;> rfl
  | x :: m, [], h => by cases h
  | x :: m, c :: bs, h => by
    have ih := mleft_nil (m := m) (bs := bs) (by simpa using h)
    simp only [mleft, List.contains_nil, cond_false, List.map_cons, ih]
theorem mleft_len {seen : List Nat} : ∀ {m : List A} {bs : List Nat}, (mleft seen m bs).length ≤ m.length
  | [], bs => by cases bs <;> exact Nat.le_refl _
  | x :: m, [] => Nat.zero_le _
  | x :: m, c :: bs => by
    have ih := mleft_len (seen := seen) (m := m) (bs := bs)
    simp only [mleft]
    cases seen.contains c
    · simp only [cond_false, List.length_cons]; omega
    · simp only [cond_true, List.length_cons]; omega

/-- A range over a map, where the order does not matter. -/
theorem range_loop (m : List A) (bs : List Nat) (hn : bs.Nodup) (Inv : S → Prop) (f : S → A → S) (hI : ∀ s, ∀ a ∈ m, Inv s → Inv (f s a)) (hf : ∀ a ∈ m, ∀ b ∈ m, ∀ s, f (f s a) b = f (f s b) a)
    (L : Nat → S → List Nat → Option R) (E : S → Option R)
    (hL : ∀ n s seen, Inv s → ∃ go, L (n + 1) s seen = nextP m bs seen (E s) go ∧ ∀ b e, mstamp m bs b = some e → e ∈ m → go b e = L n (f s e) (b :: seen)) :
    ∀ n s seen, Inv s → (mleft seen m bs).length < n → L n s seen = E ((mleft seen m bs).foldl (fun s p => f s p.2) s) := by
  intro n
  induction n with
  | zero => intro s seen _ h; omega
  | succ n ih =>
    intro s seen hs hlen
    obtain ⟨go, h1, h2⟩ := hL n s seen hs
    rw [h1]
    unfold nextP
    cases hm : mleft seen m bs with
    | nil => rfl
    | cons p l =>
      refine allEq_all (by simp) fun y hy => ?_
      obtain ⟨q, hq, rfl⟩ := List.mem_map.1 hy
      rw [← hm] at hq ⊢
      obtain ⟨hp, hst⟩ := mleft_take (b := q.1) (e := q.2) hn hq
      have hmem := (mleft_mem (b := q.1) (e := q.2) hq).2
      have hl := hp.length_eq
      rw [List.length_cons] at hl
      rw [h2 _ _ hst hmem, ih (f s q.2) (q.1 :: seen) (hI s q.2 hmem hs) (by omega)]
      have := hp.foldl_eq' (f := fun s p => f s p.2) (fun a ha b hb z => hf _ (mleft_mem (b := a.1) (e := a.2) ha).2 _ (mleft_mem (b := b.1) (e := b.2) hb).2 z) s
      rw [this]; rfl

/-- From its begin. -/
theorem range_all (m : List A) (bs : List Nat) (hl : bs.length = m.length) (hn : bs.Nodup) (Inv : S → Prop) (f : S → A → S) (hI : ∀ s, ∀ a ∈ m, Inv s → Inv (f s a)) (hf : ∀ a ∈ m, ∀ b ∈ m, ∀ s, f (f s a) b = f (f s b) a)
    (L : Nat → S → List Nat → Option R) (E : S → Option R)
    (hL : ∀ n s seen, Inv s → ∃ go, L (n + 1) s seen = nextP m bs seen (E s) go ∧ ∀ b e, mstamp m bs b = some e → e ∈ m → go b e = L n (f s e) (b :: seen))
    (s : S) (hs : Inv s) (n : Nat) (h : m.length < n) : L n s [] = E (m.foldl f s) := by
  rw [range_loop m bs hn Inv f hI hf L E hL n s [] hs (Nat.lt_of_le_of_lt mleft_len h)]
  congr 1
  rw [← List.foldl_map (f := fun (p : Nat × A) => p.2) (g := f), mleft_nil hl]

theorem allLt_of {n : Nat} : ∀ {bs : List Nat}, (∀ b ∈ bs, b < n) → allLt n bs = true
  | [], _ => rfl
  | b :: bs, h => by
    have h1 := h b (by simp)
    have h2 := allLt_of (n := n) (bs := bs) fun c hc => h c (List.mem_cons_of_mem _ hc)
    show (Nat.blt b n && allLt n bs) = true
    rw [h2, Bool.and_true, Nat.blt_eq]; exact h1
end ranges

section
variable {K V : Ty}
theorem filterMap_same {α β : Type} {f g : α → Option β} : ∀ {l : List α}, (∀ x ∈ l, f x = g x) → l.filterMap f = l.filterMap g
  | [], _ => rfl
  | x :: l, h => by
    rw [List.filterMap_cons, List.filterMap_cons, h x (by simp), filterMap_same fun y hy => h y (List.mem_cons_of_mem _ hy)]
/-- A map's entries, told key by key. -/
theorem perm_keys [DecidableEq K.den] (same : ∀ k k' : K.den, K.eqB k k' = decide (k = k')) : ∀ (m : List (K.den × V.den)) (ks : List K.den), (m.map (·.1)).Nodup → ks.Nodup → (∀ e ∈ m, e.1 ∈ ks) → m.Perm (ks.filterMap fun k => (mfind K V k m).map fun v => (k, v))
  | [], ks, _, _, _ => by
    have : (ks.filterMap fun k => (mfind K V k []).map fun v => (k, v)) = [] := List.filterMap_eq_nil_iff.2 fun k _ => rfl
    rw [this]
  | e :: m, ks, h1, h2, h3 => by
    rw [List.map_cons, List.nodup_cons] at h1
    have he := h3 e (by simp)
    have hp := List.perm_cons_erase he
    have hn := (hp.nodup_iff).1 h2
    rw [List.nodup_cons] at hn
    have ih := perm_keys same m (ks.erase e.1) h1.2 hn.2 (fun e' he' => by
      have h := h3 e' (by simp [he'])
      have hne : e'.1 ≠ e.1 := fun g => h1.1 (List.mem_map.2 ⟨e', he', g⟩)
      have := (hp.mem_iff).1 h
      rcases List.mem_cons.1 this with g | g
      · exact absurd g hne
      · exact g)
    refine List.Perm.trans ?_ (hp.symm.filterMap _)
    have hd : mfind K V e.1 (e :: m) = some e.2 := by simp [mfind, same]
    rw [List.filterMap_cons, hd]
    simp only [Option.map_some]
    refine List.Perm.cons _ (ih.trans ?_)
    rw [filterMap_same (l := ks.erase e.1) (g := fun k => (mfind K V k (e :: m)).map fun v => (k, v))]
    intro k hk
    have : k ≠ e.1 := fun g => hn.1 (g ▸ hk)
    simp [mfind, same, this]
theorem mfind_mem [DecidableEq K.den] (same : ∀ k k' : K.den, K.eqB k k' = decide (k = k')) {k : K.den} {v : V.den} : ∀ {m : List (K.den × V.den)}, mfind K V k m = some v → (k, v) ∈ m
  | [], h => by cases h
  | e :: m, h => by
    simp only [mfind, same] at h
    by_cases c : k = e.1
    · rw [decide_eq_true c] at h; cases h; rw [c]; simp
    · rw [decide_eq_false c] at h; exact List.mem_cons_of_mem _ (mfind_mem same h)
end
end Go.Am
