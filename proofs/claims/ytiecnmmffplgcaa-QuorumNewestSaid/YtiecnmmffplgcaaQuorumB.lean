/- The reader of a bucket, told plainly: Result. -/
import Derived.Test.YtiecnmmffplgcaaQuorumA
namespace Go.Am.Ytiecnmmffplgcaa

def topG (h : Int → Option An) (ks : List Int) (v : Int) : Int := ks.foldl (fun v k => match h k with | some a => topF v (k, a) | none => v) v

theorem topG_cons (h : Int → Option An) (k : Int) (ks : List Int) (v : Int) : topG h (k :: ks) v = topG h ks (match h k with | some a => topF v (k, a) | none => v) := rfl

theorem topF_is (v k : Int) (a : An) : topF v (k, a) = if v < a.2.2.1 then a.2.2.1 else v := rfl

theorem topG_ge (h : Int → Option An) : ∀ (ks : List Int) (v : Int), v ≤ topG h ks v ∧ ∀ k ∈ ks, ∀ a, h k = some a → a.2.2.1 ≤ topG h ks v
  | [], v => ⟨Int.le_refl _, fun k hk => by cases hk⟩
  | j :: ks, v => by
    rw [topG_cons]
    obtain ⟨h1, h2⟩ := topG_ge h ks (match h j with | some a => topF v (j, a) | none => v)
    refine ⟨?_, fun k hk a ha => ?_⟩
    · refine Int.le_trans ?_ h1
      cases h j with
      | none => exact Int.le_refl _
      | some a => simp only [topF_is]; split <;> omega
    · rcases List.mem_cons.1 hk with e | hk
      · subst e
        refine Int.le_trans ?_ h1
        rw [ha]
        simp only [topF_is]; split <;> omega
      · exact h2 k hk a ha

theorem topG_in (h : Int → Option An) : ∀ (ks : List Int) (v : Int), topG h ks v = v ∨ ∃ j ∈ ks, ∃ c, h j = some c ∧ c.2.2.1 = topG h ks v
  | [], v => .inl rfl
  | j :: ks, v => by
    rw [topG_cons]
    rcases topG_in h ks (match h j with | some a => topF v (j, a) | none => v) with e | ⟨i, hi, c, h1, h2⟩
    · rw [e]
      cases hj : h j with
      | none => exact .inl rfl
      | some a =>
        simp only [topF_is]
        split
        · exact .inr ⟨j, by simp, a, hj, rfl⟩
        · exact .inl rfl
    · exact .inr ⟨i, by simp [hi], c, h1, h2⟩

theorem top_ge (h : Int → Option An) {k : Int} (hk : k ∈ ks4) {a : An} (ha : h k = some a) : a.2.2.1 ≤ top h := (topG_ge h ks4 0).2 k hk a ha
theorem top_pos (h : Int → Option An) : 0 ≤ top h := (topG_ge h ks4 0).1
theorem top_in (h : Int → Option An) {k : Int} (hk : k ∈ ks4) {a : An} (ha : h k = some a) (h0 : 0 ≤ a.2.2.1) : ∃ j ∈ ks4, ∃ c, h j = some c ∧ c.2.2.1 = top h := by
  rcases topG_in h ks4 0 with e | h1
  · have := top_ge h hk ha
    exact ⟨k, hk, a, ha, by have e : top h = 0 := e; omega⟩
  · exact h1

def incs (h : Int → Option An) : List Int := ks4.map fun k => match h k with | some a => a.2.1 | none => 0
def count (h : Int → Option An) : Nat := (ks4.filterMap h).length
def dataOf (h : Int → Option An) : LE := match whichOf (firstly h (top h)) with
  | k :: _ => match h k with
    | some a => a.2.2.2
    | none => []
  | [] => []

theorem nodup_inj {A B : Type} {f : A → B} : ∀ {m : List A}, (m.map f).Nodup → ∀ a ∈ m, ∀ b ∈ m, f a = f b → a = b
  | [], _, a, ha, _, _, _ => by cases ha
  | x :: m, hn, a, ha, b, hb, e => by
    rw [List.map_cons, List.nodup_cons] at hn
    rcases List.mem_cons.1 ha with e1 | ha2
    · rcases List.mem_cons.1 hb with e2 | hb2
      · rw [e1, e2]
      · exact absurd (List.mem_map.2 ⟨b, hb2, by rw [← e, e1]⟩) hn.1
    · rcases List.mem_cons.1 hb with e2 | hb2
      · exact absurd (List.mem_map.2 ⟨a, ha2, by rw [e, e2]⟩) hn.1
      · exact nodup_inj hn.2 a ha2 b hb2 e

def incF (s : List Int) (e : Int × An) : List Int := s.set e.1.toNat e.2.2.1
theorem incF_comm {m : List (Int × An)} {bs : List Nat} {clk : Nat} (o : Ok m bs clk) : ∀ a ∈ m, ∀ b ∈ m, ∀ s, incF (incF s a) b = incF (incF s b) a := by
  intro a ha b hb s
  by_cases e : a.1 = b.1
  · rw [nodup_inj o.keys a ha b hb e]
  · unfold incF
    have h1 := o.among a ha
    have h2 := o.among b hb
    exact List.set_comm _ _ (by omega)

theorem incs_eq (h : Int → Option An) : ks4.foldl (fun s k => match h k with | some a => incF s (k, a) | none => s) [0, 0, 0, 0] = incs h := by
  simp only [ks4, List.foldl, incs, List.map]
  cases h 0 <;> cases h 1 <;> cases h 2 <;> cases h 3 <;> rfl

theorem Ok.len {m : List (Int × An)} {bs : List Nat} {clk : Nat} (o : Ok m bs clk) : m.length = count (hd m) := by
  rw [o.perm.length_eq]
  unfold count ks4
  simp only [List.filterMap]
  cases hd m 0 <;> cases hd m 1 <;> cases hd m 2 <;> cases hd m 3 <;> rfl

theorem incs_run {R : Type} {m : List (Int × An)} {bs : List Nat} {clk : Nat} (o : Ok m bs clk) (b r u v q t : Int) (w x : Bool) (l : List Int)
    (K : (Int × Int × List (Int × An) × List Nat × Nat × Int × Int × Bool × List Int × Int × Int × Bool × List Int) → Option R) :
    l11_1 FUEL K FUEL (b, r, m, bs, clk, u, v, w, l, q, t, x, [0, 0, 0, 0], clk, []) = K (b, r, m, bs, clk, u, v, w, l, q, t, x, incs (hd m)) := by
  have hlen : m.length ≤ 4 := by
    have := o.perm.length_eq
    rw [this]
    exact Nat.le_trans (List.length_filterMap_le _ _) (by decide)
  have hg : (Nat.beq clk clk && allLt clk bs) = true := by rw [Nat.beq_refl, allLt_of o.whole.below]; rfl
  have key := range_all (S := List Int) (R := R) m bs o.whole.len o.whole.nodup (fun s => s.length = 4) incF (fun s a _ hs => by unfold incF; rw [List.length_set]; exact hs) (incF_comm o)
    (fun n s seen => l11_1 FUEL K n (b, r, m, bs, clk, u, v, w, l, q, t, x, s, clk, seen)) (fun s => K (b, r, m, bs, clk, u, v, w, l, q, t, x, s))
    (fun n s seen hs => ⟨_, condT hg, fun b' e h1 h2 => by
      show (bif Nat.beq clk clk then entP m bs (b' :: seen) _ else none) = _
      refine (condT (Nat.beq_refl clk)).trans ((entP_at (seen := seen) h1).trans ?_)
      have h3 := o.among e h2
      have hi : e.1.toNat < s.length := by rw [hs]; omega
      show (if 0 ≤ e.1 ∧ e.1 < ((4 : Nat) : Int) then (match s[e.1.toNat]? with | some y41 => _ | none => none) else none) = _
      rw [if_pos (by omega), List.getElem?_eq_getElem hi]
      rfl⟩) [0, 0, 0, 0] rfl FUEL (Nat.lt_of_le_of_lt hlen (by unfold FUEL; decide))
  refine Eq.trans key ?_
  rw [o.perm.foldl_eq' (fun a ha b hb s => incF_comm o a ha b hb s) _, (foldl_keys incF (hd m) ks4 [0, 0, 0, 0]).trans (incs_eq (hd m))]

theorem mem_which {p : Int → Bool} {k : Int} : k ∈ whichOf p ↔ k ∈ ks4 ∧ p k = true := by unfold whichOf; rw [List.mem_filter]
theorem firstly_some {h : Int → Option An} {v k : Int} (e : firstly h v k = true) : ∃ a, h k = some a ∧ a.2.2.1 = v := by
  unfold firstly at e
  cases hk : h k with
  | none => rw [hk] at e; cases e
  | some a => rw [hk] at e; exact ⟨a, rfl, of_decide_eq_true e⟩

/-- Where someone has been heard, there is a first one. -/
theorem first_there {m : List (Int × An)} {bs : List Nat} {clk : Nat} (o : Ok m bs clk) (hm : 0 < m.length) : ∃ k l a, whichOf (firstly (hd m) (top (hd m))) = k :: l ∧ hd m k = some a ∧ a.2.2.1 = top (hd m) ∧ goodA a ∧ k ∈ ks4 := by
  obtain ⟨e, m', rfl⟩ : ∃ e m', m = e :: m' := by cases m with | nil => cases hm | cons e m' => exact ⟨e, m', rfl⟩
  have he : hd (e :: m') e.1 = some e.2 := by simp [hd, mfind, same]
  have hk : e.1 ∈ ks4 := by
    have := o.among e (by simp)
    simp only [ks4, List.mem_cons, List.not_mem_nil, or_false]; exact this
  obtain ⟨j, hj, c, h1, h2⟩ := top_in _ hk he (o.good e (by simp)).1
  have hin : j ∈ whichOf (firstly (hd (e :: m')) (top (hd (e :: m')))) := mem_which.2 ⟨hj, by unfold firstly; rw [h1]; exact decide_eq_true h2⟩
  generalize hq : whichOf (firstly (hd (e :: m')) (top (hd (e :: m')))) = q at hin
  cases q with
  | nil => cases hin
  | cons k l =>
    have hk2 := mem_which.1 (show k ∈ whichOf _ by rw [hq]; simp)
    obtain ⟨a, h3, h4⟩ := firstly_some hk2.2
    exact ⟨k, l, a, rfl, h3, h4, o.good (k, a) (mfind_mem (K := KT) (V := VT) same h3), hk2.1⟩

theorem few_run {m : List (Int × An)} {bs : List Nat} {clk : Nat} (h : m.length < 3) (b r : Int) : p11 FUEL (b, r, m, bs, clk) = some (0, 0, false, [0, 0, 0, 0], 163, b, r, m, bs, clk, []) :=
  condT (decide_eq_true (by omega))

theorem result_run {m : List (Int × An)} {bs : List Nat} {clk : Nat} (o : Ok m bs clk) (h : 3 ≤ m.length) (b r : Int) : p11 FUEL (b, r, m, bs, clk) = some (b, top (hd m), false, incs (hd m), 0, b, r, m, bs, clk, dataOf (hd m)) := by
  refine (condF (decide_eq_false (show ¬ (((List.length m : Nat) : Int) < 3) by omega))).trans ?_
  rw [top_run o]
  simp only
  rw [roK_of (by trivial)]
  rw [incs_run o]
  obtain ⟨k, l, a, h1, h2, h3, h4, _⟩ := first_there o (by omega)
  have hdata : dataOf (hd m) = a.2.2.2 := by unfold dataOf; rw [h1]; simp only; rw [h2]
  have hf : mfind KT VT k m = some a := h2
  simp only [first_run, h1]
  rw [if_pos (by simp)]
  simp only [show Int.toNat (0 : Int) = 0 from rfl, List.getElem?_cons_zero]
  rw [hf]
  simp only [Option.getD_some, cloneb_run h4.2, hdata]
end Go.Am.Ytiecnmmffplgcaa
