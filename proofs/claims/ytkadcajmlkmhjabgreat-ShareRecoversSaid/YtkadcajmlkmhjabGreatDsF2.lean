/- Arguments made of numbers, and the way back of any argument. -/
import Derived.Test.YtkadcajmlkmhjabGreatDsF
import Derived.WideKeyArgs
import Derived.OpenShut
import Derived.Carry
namespace Go.Dp
open Go.RowKit Go.WideShapes Go.ChangeShapes
set_option linter.unusedVariables false
section
variable {H : Type} {enc : TypeId × Value → H} {P : Program} {w : World} {base : Nat} {spare : Nat → Bool} {held : Bool}

/-- cells that are numbers of a kind -/
def AllInt (k : IntKind) (cs : List Value) : Prop := ∀ v ∈ cs, ∃ z, v = .int k z ∧ (Lit.int k z).wf = true
theorem allInt_int {k : IntKind} {fuel : Nat} {t : TypeId} {cs : List Value} {x : DataW H × List MemPlace} (ht : P.underlying t = some (.int k)) (h : DataW.trod enc P w base spare held fuel t cs = some x) : AllInt k cs ∧ x.2 = [] := by
  obtain ⟨n, rfl, rfl, hw⟩ := DataW.trod_int ht h
  exact ⟨fun v hv => ⟨n, by simpa using hv, hw⟩, rfl⟩
theorem allInt_array {k : IntKind} {fuel n : Nat} {t e : TypeId} {cs : List Value} {x : DataW H × List MemPlace} (ht : P.underlying t = some (.array n e)) (hc : P.cellsOf t = n * P.cellsOf e)
    (he : ∀ (m : Nat) (cs : List Value) (y : DataW H × List MemPlace), DataW.trod enc P w base spare held m e cs = some y → AllInt k cs ∧ y.2 = [])
    (h : DataW.trod enc P w base spare held fuel t cs = some x) : AllInt k cs ∧ x.2 = [] := by
  obtain ⟨xs, m, _, rfl, hl, hn, hi⟩ := DataW.trod_array ht h
  refine ⟨fun v hv => ?_, ?_⟩
  · obtain ⟨j, hj, rfl⟩ := List.getElem_of_mem hv
    have hce : 0 < P.cellsOf e := by
      refine Nat.pos_of_ne_zero fun h0 => ?_
      rw [hl, hc, h0] at hj; omega
    have hjn : j / P.cellsOf e < n := (Nat.div_lt_iff_lt_mul hce).2 (by rw [hl, hc] at hj; exact hj)
    have h1 := hi (j / P.cellsOf e) hjn
    have h2 : xs[j / P.cellsOf e]? = some xs[j / P.cellsOf e] := List.getElem?_eq_getElem (by omega)
    rw [h2] at h1
    refine (he _ _ _ h1).1 _ ?_
    have h3 : ((cs.drop (j / P.cellsOf e * P.cellsOf e)).take (P.cellsOf e))[j % P.cellsOf e]? = some cs[j] := by
      rw [List.getElem?_take, if_pos (Nat.mod_lt _ hce), List.getElem?_drop, show j / P.cellsOf e * P.cellsOf e + j % P.cellsOf e = j by rw [Nat.mul_comm]; exact Nat.div_add_mod _ _]
      exact List.getElem?_eq_getElem hj
    exact List.mem_of_getElem? h3
  · show xs.flatMap (·.2) = []
    rw [List.flatMap_eq_nil_iff]
    intro y hy
    obtain ⟨j, hj, rfl⟩ := List.getElem_of_mem hy
    have h1 := hi j (by omega)
    rw [List.getElem?_eq_getElem hj] at h1
    exact (he _ _ _ h1).2
theorem allInt_map {k : IntKind} : ∀ {cs : List Value}, AllInt k cs → ∃ zs : List Int, cs = zs.map (Value.int k) ∧ ∀ z ∈ zs, (Lit.int k z).wf = true
  | [], _ => ⟨[], rfl, fun _ h => by cases h⟩
  | v :: cs, h => by
    obtain ⟨z, rfl, hz⟩ := h v (by simp)
    obtain ⟨zs, rfl, hzs⟩ := allInt_map (cs := cs) fun u hu => h u (List.mem_cons_of_mem _ hu)
    exact ⟨z :: zs, rfl, fun y hy => by
      rcases List.mem_cons.1 hy with rfl | hy
      · exact hz
      · exact hzs y hy⟩

/-- the way back of all arguments -/
theorem trodAll_stays (hl : laidOutB P = true) {W W' : World} (hb : Below W.heap.size W W') {sp : Nat → Bool} : ∀ (ts : List TypeId) (vs : List Value) (ds : List (DataW H)) (ps : List MemPlace), (∀ t ∈ ts, P.readableRec t = true ∧ t < P.types.size) →
    DataW.TrodAll enc P W 0 (fun _ => true) true ts vs ds ps → (∀ x ∈ ps, x.block < W.heap.size) → (∀ x ∈ ps, sp x.block = true) → DataW.TrodAll enc P W' 0 sp true ts vs ds ps
  | [], vs, ds, ps, _, h, _, _ => by
    obtain ⟨rfl, rfl, rfl⟩ := trodAll_nil h
    exact trodAll_mk0
  | t :: ts, vs, ds, ps, ht, h, hlt, hs => by
    obtain ⟨v, vs', d, ds', p, q, rfl, rfl, rfl, h1, h2⟩ := trodAll_cons h
    have ht1 := ht t (by simp)
    refine trodAll_cons_mk ?_ (trodAll_stays hl hb ts vs' ds' q (fun t ht' => ht t (List.mem_cons_of_mem _ ht')) h2 (fun x hx => hlt x (by simp [hx])) (fun x hx => hs x (by simp [hx])))
    exact WideElems.Trod_stays hl ht1.1 ht1.2 h1 (fun x hx => hb.same (hlt x (by simp [hx]))) (fun x hx => hs x (by simp [hx]))
theorem drl_ints {G : Gm} {k : IntKind} : ∀ zs : List Int, DRL G (zs.map (V.int k)) (zs.map (Value.int k))
  | [] => .nil
  | z :: zs => .cons (.int _ _) (drl_ints zs)
theorem ones_ints {k : IntKind} (zs : List Int) : Ones (zs.map (Value.int k)) := by
  intro v hv
  obtain ⟨z, _, rfl⟩ := List.mem_map.1 hv
  rfl
end
end Go.Dp
