/- Plain laws of the printed functions of the clock: what is due. -/
import Derived.Test.YtbggedhchjibjaaPD
namespace Go.Am.Ytbggedhchjibjaa
theorem now_run (r mi s : Int) (h : List TM) (m : MM) (m0 : 0 ≤ mi) (m1 : mi ≤ 2000000000000000) : p10 FUEL (r, mi, s, h, m.1, m.2.1, m.2.2) = some (mi / 1000, r, mi, s, h, m.1, m.2.1, m.2.2) := by
  simp only [p10]
  rw [tdiv_pos m0, wrapI (by omega) (by omega)]

theorem due_loop {R : Type} (K : _ → Option R) (r mi s : Int) (m0 : 0 ≤ mi) (m1 : mi ≤ 2000000000000000) : ∀ (n : Nat) (h : List TM) (m : MM) (out : List Int), h.length < n → Tidy h m → out.length + h.length ≤ 256 →
    ∃ (P h' : List TM) (m' : MM), l13_0 FUEL K n (r, mi, s, h, m.1, m.2.1, m.2.2, out) = K (r, mi, s, h', m'.1, m'.2.1, m'.2.2, out ++ P.map (·.1)) ∧ Tidy h' m' ∧ h.Perm (P ++ h') ∧ P.Pairwise le ∧ (∀ t ∈ P, t.2.1 ≤ mi / 1000) ∧ ∀ t ∈ h', mi / 1000 < t.2.1 := by
  intro n
  induction n with
  | zero => intro h m out a; omega
  | succ n ih =>
    intro h m out hn w hl
    by_cases h0 : 0 < h.length
    · have c0 : (0 : Int) ≤ 0 ∧ (0 : Int) < ((h.length : Nat) : Int) := by omega
      have hs : l13_0 FUEL K (n + 1) (r, mi, s, h, m.1, m.2.1, m.2.2, out) = bif decide ((H h 0).2.1 ≤ mi / 1000) then (match p21 FUEL ((H h 0).1, r, mi, s, h, m.1, m.2.1, m.2.2) with | some z20 => l13_0 FUEL K n (z20.2.1, z20.2.2.1, z20.2.2.2.1, z20.2.2.2.2.1, z20.2.2.2.2.2.1, z20.2.2.2.2.2.2.1, z20.2.2.2.2.2.2.2, out ++ [(H h 0).1]) | none => none) else K (r, mi, s, h, m.1, m.2.1, m.2.2, out) := by
        refine (condT (decide_eq_true (show (0 : Int) < ((h.length : Nat) : Int) by omega))).trans ?_
        simp only [if_pos c0, show Int.toNat 0 = 0 from rfl, H_some h0, now_run r mi s h m m0 m1]
        rw [roK_of ⟨trivial, trivial, trivial, trivial⟩, if_pos (show (out.length + List.length [(H h 0).1]) * 8 ≤ 140737488355328 by simp; omega)]
        rfl
      rw [hs]
      by_cases hd : (H h 0).2.1 ≤ mi / 1000
      · rw [decide_eq_true hd]
        obtain ⟨h1, m1', e1, e2, e3⟩ := stop_at w (by omega) h0 r mi s
        have hlen : h.length = h1.length + 1 := by have := e3.length_eq; simpa using this
        obtain ⟨P, h', m', r1, r2, r3, r4, r5, r6⟩ := ih h1 m1' (out ++ [(H h 0).1]) (by omega) e2 (by simp; omega)
        refine ⟨H h 0 :: P, h', m', ?_, r2, e3.trans (List.Perm.cons _ r3), List.pairwise_cons.2 ⟨fun t ht => ?_, r4⟩, fun t ht => ?_, r6⟩
        · rw [e1]
          simp only [cond_true]
          rw [r1, List.append_assoc]; rfl
        · have : t ∈ h := e3.mem_iff.2 (by
            right
            exact r3.mem_iff.2 (by simp [ht]))
          obtain ⟨j, hj, e⟩ := mem_H this
          rw [← e]; exact heap_root w.heap j hj
        · rcases List.mem_cons.1 ht with e | ht
          · rw [e]; exact hd
          · exact r5 t ht
      · rw [decide_eq_false hd]
        refine ⟨[], h, m, by simp, w, List.Perm.refl _, List.Pairwise.nil, (by intro t ht; cases ht), fun t ht => ?_⟩
        obtain ⟨j, hj, e⟩ := mem_H ht
        have := heap_root w.heap j hj
        rw [e] at this
        unfold le at this; omega
    · refine ⟨[], h, m, ?_, w, List.Perm.refl _, List.Pairwise.nil, (by intro t ht; cases ht), fun t ht => ?_⟩
      · simp only [List.map_nil, List.append_nil]
        exact condF (decide_eq_false (show ¬ (0 : Int) < ((h.length : Nat) : Int) by omega))
      · have : h = [] := List.eq_nil_of_length_eq_zero (by omega)
        rw [this] at ht; cases ht

theorem due_run {h : List TM} {m : MM} (w : Tidy h m) (hl : h.length ≤ 256) (r mi s : Int) (m0 : 0 ≤ mi) (m1 : mi ≤ 2000000000000000) :
    ∃ (P h' : List TM) (m' : MM), p13 FUEL (r, mi, s, h, m.1, m.2.1, m.2.2) = some (r, mi, s, h', m'.1, m'.2.1, m'.2.2, P.map (·.1)) ∧ Tidy h' m' ∧ h.Perm (P ++ h') ∧ P.Pairwise le ∧ (∀ t ∈ P, t.2.1 ≤ mi / 1000) ∧ ∀ t ∈ h', mi / 1000 < t.2.1 := by
  obtain ⟨P, h', m', r1, r2⟩ := due_loop (R := Int × Int × Int × List TM × List (Int × Int) × List Nat × Nat × List Int) (fun (x21, x22, x23, x24, x25, x26, x27, x28) => (some (x21, x22, x23, x24, x25, x26, x27, x28))) r mi s m0 m1 FUEL h m [] (by have := big; omega) w (by simpa using hl)
  exact ⟨P, h', m', r1, r2⟩

theorem tidy_nodup {h : List TM} {m : MM} (w : Tidy h m) : h.Nodup := by
  unfold List.Nodup
  rw [List.pairwise_iff_getElem]
  intro i j hi hj hij e
  rw [H_get hi, H_get hj] at e
  have := w.placed.inj hi hj (by rw [e])
  omega
end Go.Am.Ytbggedhchjibjaa
