/- Plain laws of the printed functions of keys: ranges; how four bools are read. -/
import Derived.Test.YteiklegkbjmjnaaPlain
import Derived.Test.YteiklegkbjmjnaaAmZD
import Derived.WalkKit
import Derived.ProofKit
import Derived.OpenShut
namespace Go.Am.Yteiklegkbjmjnaa
open Go.ChangeShapes Go.WideShapes Go.ChangeAt Go.RowKit
section
variable {P : Program} {H : Type} {enc : TypeId × Value → H} {w : World} {base : Nat} {sp : Nat → Bool} {held : Bool}
theorem open_bools4 {r : Reach} {b0 : Nat} {t e : TypeId} {v : Value} {d : DataW H} {ps : List MemPlace} (ht : P.underlying t = some (.array 4 e)) (he : P.underlying e = some .bool) (hc : P.cellsOf e = 1) (hct : P.cellsOf t = 4)
    (hval : Value.okWide P w r b0 t v) (hd : DataW.Trod enc P w base sp held t v d ps) :
    ∃ a b c f : Bool, v = .agg #[.bool a, .bool b, .bool c, .bool f] ∧ d = .agg [.lit (.bool a), .lit (.bool b), .lit (.bool c), .lit (.bool f)] ∧ ps = [] := by
  unfold Value.okWide at hval
  rw [ht] at hval
  obtain ⟨cs, rfl, hsz, _⟩ := hval
  obtain ⟨fuel, hf⟩ := hd
  rw [hct] at hsz
  obtain ⟨c0, c1, c2, c3, rfl⟩ : ∃ c0 c1 c2 c3, cs = #[c0, c1, c2, c3] := by
    obtain ⟨l⟩ := cs
    match l, hsz with
    | [c0, c1, c2, c3], _ => exact ⟨c0, c1, c2, c3, rfl⟩
  cases fuel with
  | zero => cases hf
  | succ n =>
    have hg : ((List.range 4).mapM fun i => DataW.trod enc P w base sp held n e (([c0, c1, c2, c3].drop (i * P.cellsOf e)).take (P.cellsOf e))).map (fun xs => (DataW.agg (xs.map (·.1)), xs.flatMap (·.2))) = some (d, ps) := by
      have := hf
      simp only [DataW.trod, ht, Value.cells, hct] at this
      simpa using this
    rw [hc] at hg
    simp only [List.range, List.range.loop, List.mapM_cons, List.mapM_nil] at hg
    simp only [List.drop, List.take] at hg
    cases h0 : DataW.trod enc P w base sp held n e [c0] with
    | none => rw [h0] at hg; simp at hg
    | some y0 =>
      cases h1 : DataW.trod enc P w base sp held n e [c1] with
      | none => rw [h0, h1] at hg; simp at hg
      | some y1 =>
        cases h2 : DataW.trod enc P w base sp held n e [c2] with
        | none => rw [h0, h1, h2] at hg; simp at hg
        | some y2 =>
          cases h3 : DataW.trod enc P w base sp held n e [c3] with
          | none => rw [h0, h1, h2, h3] at hg; simp at hg
          | some y3 =>
            obtain ⟨a0, e0, rfl⟩ := DataW.trod_bool he h0
            obtain ⟨a1, e1, rfl⟩ := DataW.trod_bool he h1
            obtain ⟨a2, e2, rfl⟩ := DataW.trod_bool he h2
            obtain ⟨a3, e3, rfl⟩ := DataW.trod_bool he h3
            rw [h0, h1, h2, h3] at hg
            cases e0; cases e1; cases e2; cases e3
            have hg : some (DataW.agg [.lit (.bool a0), .lit (.bool a1), .lit (.bool a2), .lit (.bool a3)], ([] : List MemPlace)) = some (d, ps) := hg
            cases hg
            exact ⟨a0, a1, a2, a3, rfl, rfl, rfl⟩
theorem shut_bools4 {t e : TypeId} (ht : P.underlying t = some (.array 4 e)) (he : P.underlying e = some .bool) (hc : P.cellsOf e = 1) (hct : P.cellsOf t = 4) (a b c f : Bool) :
    DataW.Trod enc P w base sp held t (.agg #[.bool a, .bool b, .bool c, .bool f]) (.agg [.lit (.bool a), .lit (.bool b), .lit (.bool c), .lit (.bool f)]) [] :=
  ⟨2, by simp [DataW.trod, Value.cells, ht, he, hc, hct, List.range, List.range.loop]⟩
end

theorem p21_24 (a b c d : Bool) : p21 FUEL (([a, b, c, d], ()), ()) = some (Nat.ble 3 (a.toNat + b.toNat + c.toNat + d.toNat), ()) ∧ p24 FUEL (([a, b, c, d], ()), ()) = some (Nat.ble 3 (a.toNat + b.toNat + c.toNat + d.toNat), ()) := by
  cases a <;> cases b <;> cases c <;> cases d <;> exact ⟨by kernel_rfl, by kernel_rfl⟩
theorem pure6 (s t : ByteArray) (a b c d : Bool) : p6 FUEL ((s, (t, ([a, b, c, d], ()))), ()) = some (true, ()) := by
  have hf : 17 ≤ FUEL := by unfold FUEL; omega
  obtain ⟨h1, h2⟩ := p21_24 a b c d
  have h : ∃ x y z : Int, p22 FUEL ((s, (t, ())), ()) = some ((x, (y, (z, ()))), ()) ∧ p23 FUEL ((s, (t, ())), ()) = some ((x, (y, (z, ()))), ()) := by
    unfold p22 p23 p19
    simp only [p10_eq FUEL hf, p16_eq FUEL hf]
    unfold p17 p18
    simp only [bucket _ (hi_lt8 _)]
    cases (!(strLess s t || strEq s t)) <;> exact ⟨_, _, _, rfl, rfl⟩
  obtain ⟨x, y, z, h3, h4⟩ := h
  unfold p6
  simp only [h1, h2, h3, h4, p11_eq, cond_true, decide_true, beq_self_eq_true]
end Go.Am.Yteiklegkbjmjnaa
