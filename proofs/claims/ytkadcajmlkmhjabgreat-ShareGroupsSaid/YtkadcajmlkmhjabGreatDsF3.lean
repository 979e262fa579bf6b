/- A struct of numbers as an argument. -/
import Derived.Test.YtkadcajmlkmhjabGreatDsF2
namespace Go.Dp
open Go.RowKit Go.WideShapes Go.ChangeShapes
set_option linter.unusedVariables false
section
variable {H : Type} {enc : TypeId × Value → H} {P : Program} {w : World} {base : Nat} {spare : Nat → Bool} {held : Bool}
theorem allInt_struct {k : IntKind} {fuel n : Nat} {t : TypeId} {fs : Array Field} {cs : List Value} {x : DataW H × List MemPlace} (ht : P.underlying t = some (.struct fs)) (hn : fs.size = n) (hc : P.cellsOf t = n)
    (hf : ∀ i, i < n → ∃ f, fs[i]? = some f ∧ f.offset = i ∧ P.underlying f.type = some (.int k) ∧ P.cellsOf f.type = 1)
    (h : DataW.trod enc P w base spare held fuel t cs = some x) : AllInt k cs ∧ x.2 = [] := by
  obtain ⟨xs, m, _, rfl, hl, hx, hi⟩ := DataW.trod_struct ht h
  refine ⟨fun v hv => ?_, ?_⟩
  · obtain ⟨j, hj, rfl⟩ := List.getElem_of_mem hv
    obtain ⟨f, f1, f2, f3, f4⟩ := hf j (by omega)
    have h1 := hi j f f1
    have h2 : xs[j]? = some xs[j] := List.getElem?_eq_getElem (by omega)
    rw [h2] at h1
    refine (allInt_int f3 h1).1 _ ?_
    have h3 : ((cs.drop f.offset).take (P.cellsOf f.type))[0]? = some cs[j] := by
      rw [List.getElem?_take, if_pos (by omega), List.getElem?_drop, f2, Nat.add_zero]
      exact List.getElem?_eq_getElem hj
    exact List.mem_of_getElem? h3
  · show xs.flatMap (·.2) = []
    rw [List.flatMap_eq_nil_iff]
    intro y hy
    obtain ⟨j, hj, rfl⟩ := List.getElem_of_mem hy
    obtain ⟨f, f1, f2, f3, f4⟩ := hf j (by omega)
    have h1 := hi j f f1
    rw [List.getElem?_eq_getElem hj] at h1
    exact (allInt_int f3 h1).2
end
end Go.Dp
