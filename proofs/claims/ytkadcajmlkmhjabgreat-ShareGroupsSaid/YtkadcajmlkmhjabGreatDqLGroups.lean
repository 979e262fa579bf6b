/- Proves Rows.ShareGroupsSaid: dauberlaw08.ShareGroups returns true for every group's three numbers and every number (all int64), and leaves its arguments as they were; no condition. The frame below follows the guide's template for a law. -/
import Derived.Test.YtkadcajmlkmhjabGreatRows
import Derived.Test.YtkadcajmlkmhjabGreatDsF3
import Derived.Test.YtkadcajmlkmhjabGreatDqL3
import Derived.WalkKit
import Derived.ProofKit
import Derived.OpenShut
namespace Go.Proofs.YtkadcajmlkmhjabGreat.shareGroups
open Go.ChangeShapes Go.WideShapes Go.ChangeAt Go.RowKit
set_option linter.unusedVariables false

theorem own : ownKnob Tryz.prog.godebug = none := by kernel_rfl
theorem laidB : laidOutB Tryz.prog = true := by kernel_rfl
theorem cells25 : Tryz.prog.cellsOf 25 = 3 := by kernel_rfl
theorem cells2 : Tryz.prog.cellsOf 2 = 1 := by kernel_rfl
theorem rdb : ∀ t ∈ [25, 2], Tryz.prog.readableRec t = true ∧ t < Tryz.prog.types.size := by
  have h2 : Tryz.prog.readableRec 2 = true := by kernel_rfl
  have h67 : Tryz.prog.readableRec 25 = true := by kernel_rfl
  have s2 : decide (2 < Tryz.prog.types.size) = true := by kernel_rfl
  have s67 : decide (25 < Tryz.prog.types.size) = true := by kernel_rfl
  intro t ht
  simp only [List.mem_cons, List.not_mem_nil, or_false] at ht
  rcases ht with rfl | rfl
  · exact ⟨h67, of_decide_eq_true s67⟩
  · exact ⟨h2, of_decide_eq_true s2⟩

theorem i64_lo_hi {a : Int} (h : (Lit.int .i64 a).wf = true) : -9223372036854775808 ≤ a ∧ a < 9223372036854775808 := by
  simp [Lit.wf, IntKind.min, IntKind.max, IntKind.bits, IntKind.signed] at h
  omega

theorem walk (a1 : Int) (zs : List Int) (hl : zs.length = 3) (w0 : (Lit.int .i64 a1).wf = true) (w1 : ∀ z ∈ zs, (Lit.int .i64 z).wf = true) (w : World) :
    Calls Tryz.prog 8 #[.agg (zs.map (Value.int .i64)).toArray, .int .i64 a1] w fun e w' => e = .returned (.bool true) ∧ Below w.heap.size w w' := by
  match zs, hl with
  | [a, b, c], _ =>
    have ha := i64_lo_hi (w1 a (by simp))
    have hb := i64_lo_hi (w1 b (by simp))
    have hc := i64_lo_hi (w1 c (by simp))
    have hp := i64_lo_hi w0
    have hh := Go.Dp.k8 a b c a1 ⟨⟨by omega, by omega⟩, ⟨by omega, by omega⟩, ⟨by omega, by omega⟩⟩ (by omega) (by omega)
    exact hh.walk (G := fun _ _ => none) (fun _ _ _ e => by cases e) (.cons (.agg (Go.Dp.drl_ints [a, b, c]) (Go.Dp.ones_ints _)) (.cons (.int _ _) .nil))

set_option maxRecDepth 100000 in
theorem lifted (os : Os) (started : os.Started) (H : Type) (enc : TypeId × Value → H) :
    ReturnsInHanded {} Tryz.checked os 8 .any (Rows.shareGroupsSpec.pre6 enc Tryz.prog Tryz.f8 Rows.shareGroupsRow.domain false) (Rows.shareGroupsSpec.post enc Tryz.prog Tryz.f8 false true false false) := by
  refine returnsInHanded_of_change (C := Tryz.checked) own started (by kernel_rfl) Tryz.func8
    (ChangeSpec.witness6 (enc := enc) (C := Tryz.checked) false ⟨#[], #[.agg #[.int .i64 0, .int .i64 0, .int .i64 0], .int .i64 0], []⟩ 8 (by kernel_rfl) (by kernel_rfl) (by kernel_rfl) (by kernel_rfl)) ?_
  intro W base args ds gs before hval0 hW hcnd _
  have hval : ∀ (j : Nat) t v, Tryz.f8.params[j]? = some t → args[j]? = some v → Value.okWide Tryz.prog W .any base t v := hval0
  have hW' := hW
  obtain ⟨p, q, hA0, hV, rfl, hfz, hnd⟩ := hW
  have hA : DataW.TrodAll enc Tryz.prog W 0 (fun _ => true) true Tryz.f8.params.toList args.toList ds p := hA0
  rw [Tryz.params8] at hA hval
  have hAk := hA
  obtain ⟨v0, vs0, d0, ds0, p0, q0, hargs, rfl, rfl, h0, r0⟩ := trodAll_cons hA
  obtain ⟨v1, vs1, d1, ds1, p1, q1, rfl, rfl, rfl, h1, r1⟩ := trodAll_cons r0
  obtain ⟨rfl, rfl, rfl⟩ := trodAll_nil r1
  obtain rfl : args = #[v0, v1] := by cases args; simp_all
  obtain ⟨rfl, rfl⟩ := trodVars_none hV
  obtain ⟨a1, rfl, rfl, rfl, w0⟩ := open_int Tryz.underlying2 (hval 1 2 v1 rfl rfl) h1
  have hv1 : Value.okWide Tryz.prog W .any base 25 v0 := hval 0 25 v0 rfl rfl
  simp only [Value.okWide, Tryz.underlying25] at hv1
  obtain ⟨cs, rfl, hsz, _⟩ := hv1
  rw [cells25] at hsz
  have hp1 : Go.Dp.AllInt .i64 cs.toList ∧ p0 = [] := by
    obtain ⟨n, hn⟩ := h0
    refine Go.Dp.allInt_struct (k := .i64) (n := 3) Tryz.underlying25 rfl cells25 (fun i hi => ?_) (by simpa [Value.cells] using hn)
    match i, hi with
    | 0, _ => exact ⟨_, rfl, rfl, Tryz.underlying2, cells2⟩
    | 1, _ => exact ⟨_, rfl, rfl, Tryz.underlying2, cells2⟩
    | 2, _ => exact ⟨_, rfl, rfl, Tryz.underlying2, cells2⟩
  obtain ⟨hall, rfl⟩ := hp1
  obtain ⟨zs, hzs, hwf⟩ := Go.Dp.allInt_map hall
  have hlen : zs.length = 3 := by
    have : cs.toList.length = zs.length := by rw [hzs]; simp
    simp at this; omega
  obtain rfl : cs = (zs.map (Value.int .i64)).toArray := by rw [← hzs]
  clear hA0 hval0
  simp only [List.append_nil] at hW'
  refine (walk a1 zs hlen w0 hwf W).mono fun e W' ⟨he, hb⟩ => ?_
  subst he
  exact ⟨_, rfl, Go.Dp.post_of_below (pa := []) (pv := []) hW' (fun _ _ _ => (trodAll_cons_mk (shut_bool Tryz.underlying4 _) trodAll_mk0))
    (fun sp _ => by rw [Tryz.params8]; exact Go.Dp.trodAll_stays laidB hb _ _ _ [] rdb hAk (fun x hx => by cases hx) (fun x hx => by cases hx)) (fun _ _ => rfl) rfl
    hb (ok_one (by kernel_rfl) rfl (okWide_bool_mk Tryz.underlying4 _))⟩

theorem over : Rows.shareGroupsRow.holds Tryz.pinned (OpenSpec.ofChange Rows.shareGroupsSpec) :=
  OpenClaim.holds_of_wide 8 Tryz.f8 rfl rfl rfl rfl rfl rfl rfl ⟨rfl, rfl, rfl, rfl, rfl⟩ rfl rfl rfl rfl rfl (by kernel_rfl) Tryz.func8 (by kernel_rfl)
    (of_decide_eq_true (by kernel_rfl)) (by unfold Func.isWrapper; first | (rw [if_pos (by decide +kernel)]; kernel_rfl) | (rw [if_neg (by decide +kernel)]; exact ⟨rfl, rfl⟩))
    (fun os started H enc _ => lifted os started H enc)

/-- the statement -/
theorem proved : Rows.ShareGroupsSaid :=
  over
#print axioms proved
end Go.Proofs.YtkadcajmlkmhjabGreat.shareGroups
