/- Plain laws of the printed functions of the audit: what was done in a row has an order. -/
import Derived.Test.YtmilfdplgemnfaaAuditG
namespace Go.Am.Ytmilfdplgemnfaa
/-- Is a bucket written? -/
def wrt (L : List Item) (b : Nat) : Int := bif L.any (fun y => y.2.2.1 && decide (y.1 = (b : Int))) then 1 else 0
theorem wrt_01 (L : List Item) (b : Nat) : wrt L b = 0 ∨ wrt L b = 1 := by
  unfold wrt
  cases L.any (fun y => y.2.2.1 && decide (y.1 = (b : Int))) <;> simp
/-- Items that read what is newest. -/
structure Its (w : Nat → Int) (L : List Item) : Prop where
  rng : ∀ x ∈ L, 0 ≤ x.1 ∧ x.1 < 64
  nd : (L.map (·.1)).Nodup
  ver : ∀ x ∈ L, x.2.1 = w x.1.toNat
inductive Ser : List Done → (Nat → Int) → Prop
  | nil : Ser [] (fun _ => 0)
  | snoc {h : List Done} {w : Nat → Int} (S : Ser h w) (d : Done) (h1 : d.1 = (h.length : Int) + 1) (h2 : d.2.1 ≤ 10000 + 100 * (h.length : Int)) (h3 : 10000 + 100 * (h.length : Int) ≤ d.2.2.1) (I : Its w d.2.2.2) : Ser (h ++ [d]) (fun b => w b + wrt d.2.2.2 b)
theorem wrt_of {L : List Item} {x : Item} (hx : x ∈ L) (h0 : 0 ≤ x.1) (hw : x.2.2.1 = true) : wrt L x.1.toNat = 1 := by
  unfold wrt
  rw [show L.any (fun y => y.2.2.1 && decide (y.1 = ((x.1.toNat : Nat) : Int))) = true from List.any_eq_true.2 ⟨x, hx, by rw [hw, decide_eq_true (show x.1 = ((x.1.toNat : Nat) : Int) by omega)]; rfl⟩]
  rfl
theorem ser_w {h : List Done} {w : Nat → Int} (S : Ser h w) : ∀ b, 0 ≤ w b ∧ w b ≤ h.length := by
  induction S with
  | nil => intro b; simp
  | snoc S d _ _ _ _ ih =>
    intro b
    have h1 := ih b
    dsimp only
    rcases wrt_01 d.2.2.2 b with e | e <;> rw [e, List.length_append, List.length_singleton] <;> omega
theorem ser_facts {h : List Done} {w : Nat → Int} (S : Ser h w) : (∀ d ∈ h, 1 ≤ d.1 ∧ d.1 ≤ h.length ∧ d.2.1 + 100 ≤ 10000 + 100 * (h.length : Int) ∧ d.2.1 ≤ d.2.2.1 ∧ (d.2.2.2.map (·.1)).Nodup ∧ ∀ x ∈ d.2.2.2, 0 ≤ x.1 ∧ x.1 < 64 ∧ 0 ≤ x.2.1 ∧ x.2.1 ≤ w x.1.toNat ∧ (x.2.2.1 = true → x.2.1 + 1 ≤ w x.1.toNat)) ∧ (h.map (·.1)).Nodup := by
  induction S with
  | nil => exact ⟨fun d hd => (by cases hd), List.nodup_nil⟩
  | @snoc h w S d h1 h2 h3 I ih =>
    have hw := ser_w S
    refine ⟨fun e he => ?_, ?_⟩
    · rw [List.length_append, List.length_singleton]
      rcases List.mem_append.1 he with he | he
      · obtain ⟨a, b, c, c2, c3, f⟩ := ih.1 e he
        refine ⟨a, by omega, by omega, c2, c3, fun x hx => ?_⟩
        obtain ⟨f1, f2, f3, f4, f5⟩ := f x hx
        dsimp only
        rcases wrt_01 d.2.2.2 x.1.toNat with g | g <;> rw [g]
        · exact ⟨f1, f2, f3, by omega, fun k => by have := f5 k; omega⟩
        · exact ⟨f1, f2, f3, by omega, fun k => by have := f5 k; omega⟩
      · rw [List.mem_singleton] at he
        subst he
        refine ⟨by omega, by omega, by omega, by omega, I.nd, fun x hx => ?_⟩
        have r := I.rng x hx
        have v := I.ver x hx
        have h0 := hw x.1.toNat
        dsimp only
        rcases wrt_01 e.2.2.2 x.1.toNat with g | g
        · rw [g]
          refine ⟨r.1, r.2, by omega, by omega, fun k => ?_⟩
          rw [wrt_of hx r.1 k] at g; omega
        · rw [g]; exact ⟨r.1, r.2, by omega, by omega, fun _ => by omega⟩
    · rw [List.map_append, List.nodup_append]
      refine ⟨ih.2, by simp, fun a ha b hb => ?_⟩
      obtain ⟨e, he, rfl⟩ := List.mem_map.1 ha
      have : b = d.1 := by simpa using hb
      have := (ih.1 e he).2.1
      omega
/-- Items of different buckets: a version of a bucket is made once at most. -/
theorem cnt_one {w : Nat → Int} (hw : ∀ b, 0 ≤ w b ∧ w b ≤ 30) : ∀ {L : List Item}, Its w L → ∀ (b : Nat) (u : Int), 0 ≤ u → (cnt L ((b : Int), u + 1) : Int) = if wrt L b = 1 ∧ w b = u then 1 else 0
  | [], _, b, u, _ => by simp [cnt, wrt]
  | x :: L, I, b, u, hu => by
    have hnd := I.nd
    rw [List.map_cons, List.nodup_cons] at hnd
    have I' : Its w L := ⟨fun y hy => I.rng y (by simp [hy]), hnd.2, fun y hy => I.ver y (by simp [hy])⟩
    have ih := cnt_one hw I' b u hu
    have rx := I.rng x (by simp)
    have vx := I.ver x (by simp)
    have wx := hw x.1.toNat
    have ec : cnt (x :: L) ((b : Int), u + 1) = cnt L ((b : Int), u + 1) + (if (x.2.2.1 && decide (mk x = ((b : Int), u + 1))) = true then 1 else 0) := by
      unfold cnt
      rw [List.countP_cons]
    have ew : wrt (x :: L) b = if (x.2.2.1 && decide (x.1 = (b : Int))) = true then 1 else wrt L b := by
      unfold wrt
      rw [List.any_cons]
      cases x.2.2.1 && decide (x.1 = (b : Int)) <;> rfl
    rw [ec, ew, Int.natCast_add, ih]
    by_cases c : x.1 = (b : Int)
    · have hb : x.1.toNat = b := by omega
      have no : wrt L b = 0 := by
        unfold wrt
        rw [show L.any (fun y => y.2.2.1 && decide (y.1 = (b : Int))) = false from ?_]
        · rfl
        · rw [List.any_eq_false]
          intro y hy g
          rw [Bool.and_eq_true, decide_eq_true_eq] at g
          exact hnd.1 (List.mem_map.2 ⟨y, hy, by rw [g.2, c]⟩)
      rw [no, decide_eq_true c]
      unfold mk
      rw [wrapU32 (by omega) (by omega), hb] at *
      rw [vx]
      cases x.2.2.1
      · simp
      · by_cases e : w b = u
        · simp [c, e]
        · have : ¬ (w b + 1 = u + 1) := by omega
          simp [c, e, this]
    · rw [decide_eq_false c, decide_eq_false (show ¬ mk x = ((b : Int), u + 1) from fun g => c (congrArg Prod.fst g))]
      simp
theorem one_more (u v g : Int) (hg : g = 0 ∨ g = 1) : ((if u < v then 1 else 0) + (if g = 1 ∧ v = u then 1 else 0) : Int) = if u < v + g then 1 else 0 := by
  rcases hg with rfl | rfl <;> (repeat' split) <;> omega
theorem ser_cnt {h : List Done} {w : Nat → Int} (S : Ser h w) (hl : h.length ≤ 30) : ∀ (b : Nat) (u : Int), 0 ≤ u → (cnt (allItems h) ((b : Int), u + 1) : Int) = if u < w b then 1 else 0 := by
  induction S with
  | nil => intro b u hu; simp [allItems, cnt]; omega
  | @snoc h w S d h1 h2 h3 I ih =>
    intro b u hu
    rw [List.length_append, List.length_singleton] at hl
    have hw : ∀ b, 0 ≤ w b ∧ w b ≤ 30 := fun b => by have := ser_w S b; omega
    have e1 : allItems (h ++ [d]) = allItems h ++ d.2.2.2 := by simp [allItems]
    have e2 : cnt (allItems h ++ d.2.2.2) ((b : Int), u + 1) = cnt (allItems h) ((b : Int), u + 1) + cnt d.2.2.2 ((b : Int), u + 1) := by simp [cnt]
    rw [e1, e2, Int.natCast_add, ih (by omega) b u hu, cnt_one hw I b u hu]
    exact one_more u (w b) (wrt d.2.2.2 b) (wrt_01 d.2.2.2 b)
theorem ser_good {h : List Done} {w : Nat → Int} (S : Ser h w) : ∀ a ∈ h, ∀ b ∈ h, a.1 ≠ b.1 → ahP a b = true → a.1 < b.1 := by
  induction S with
  | nil => intro a ha; cases ha
  | @snoc h w S d h1 h2 h3 I ih =>
    intro a ha b hb hab hah
    have F := (ser_facts S).1
    rcases List.mem_append.1 ha with ka | ka <;> rcases List.mem_append.1 hb with kb | kb
    · exact ih a ka b kb hab hah
    · rw [List.mem_singleton] at kb
      subst kb
      have := (F a ka).2.1
      omega
    · rw [List.mem_singleton] at ka
      subst ka
      exfalso
      obtain ⟨_, _, b3, _, _, b5⟩ := F b kb
      unfold ahP at hah
      rw [Bool.or_eq_true] at hah
      rcases hah with g | g
      · rw [Bool.and_eq_true, decide_eq_true_eq] at g; omega
      · rw [List.any_eq_true] at g
        obtain ⟨x, hx, hh⟩ := g
        unfold hit at hh
        cases hf : b.2.2.2.find? (fun y => decide (y.1 = x.1)) with
        | none => rw [hf] at hh; cases hh
        | some y =>
          rw [hf] at hh
          have hh : pair x y = true := hh
          have e : y.1 = x.1 := by simpa using List.find?_some hf
          obtain ⟨_, _, _, y4, y5⟩ := b5 y (List.mem_of_find?_eq_some hf)
          have vx := I.ver x hx
          rw [e] at y4 y5
          unfold pair at hh
          rw [Bool.or_eq_true, Bool.and_eq_true, Bool.and_eq_true, decide_eq_true_eq, decide_eq_true_eq] at hh
          rcases hh with ⟨_, k⟩ | ⟨k1, k2⟩
          · omega
          · have := y5 k1; omega
    · rw [List.mem_singleton] at ka kb
      subst ka; subst kb
      exact absurd rfl hab
theorem ser_code {h : List Done} {w : Nat → Int} (S : Ser h w) (hl : h.length ≤ 30) : (ordB h).1 = 0 := by
  obtain ⟨F, N⟩ := ser_facts S
  have hw := ser_w S
  have C := ser_cnt S hl
  have hf : formB h = true := by
    simp only [formB, Bool.and_eq_true, decide_eq_true_eq]
    refine ⟨List.all_eq_true.2 fun d hd => ?_, N⟩
    obtain ⟨_, _, _, f4, f5, f6⟩ := F d hd
    simp only [okD, Bool.and_eq_true, decide_eq_true_eq]
    refine ⟨?_, List.all_eq_true.2 fun x hx => ?_, f5⟩
    · rw [decide_eq_false (show ¬ d.2.2.1 < d.2.1 by omega)]; simp
    · obtain ⟨g1, g2, g3, g4, _⟩ := f6 x hx
      have := hw x.1.toNat
      unfold inRange
      rw [decide_eq_false (by omega), decide_eq_false (by omega), decide_eq_false (by omega)]; rfl
  have ht : tracedB h = true := by
    refine List.all_eq_true.2 fun d hd => List.all_eq_true.2 fun x hx => ?_
    obtain ⟨g1, g2, g3, g4, _⟩ := (F d hd).2.2.2.2.2 x hx
    have h0 := hw x.1.toNat
    have hb : x.1 = ((x.1.toNat : Nat) : Int) := by omega
    unfold okT mk
    rw [wrapU32 (by omega) (by omega)]
    have c2 := C x.1.toNat x.2.1 g3
    rw [← hb] at c2
    have e2 : decide ((1 : Int) < (cnt (allItems h) (x.1, x.2.1 + 1) : Int)) = false := decide_eq_false (by rw [c2]; split <;> omega)
    rw [e2, Bool.and_false, Bool.not_false, Bool.and_true]
    by_cases c : 0 < x.2.1
    · have c1 := C x.1.toNat (x.2.1 - 1) (by omega)
      rw [← hb, show x.2.1 - 1 + 1 = x.2.1 by omega, if_pos (by omega)] at c1
      show (!(decide (0 < x.2.1) && decide ((cnt (allItems h) (x.1, x.2.1) : Int) = 0))) = true
      rw [c1]; simp
    · rw [decide_eq_false c]; rfl
  have G : Good h := ⟨fun d => d.1.toNat, fun a ha b hb hab hah => by
    have := ser_good S a ha b hb hab hah
    have := (F a ha).1
    show a.1.toNat < b.1.toNat
    omega⟩
  rw [ordB_code, if_pos hf, if_pos ⟨ht, G⟩]
end Go.Am.Ytmilfdplgemnfaa
