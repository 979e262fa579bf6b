/- Contracts by reference. -/
import Derived.Test.YtkadcajmlkmhjabGreatDpFun
namespace Go.Dp
open Go.RowKit
set_option linter.unusedSimpArgs false
set_option linter.unusedVariables false
variable {Y : Ys}

variable {P : Program}

theorem refC_of_wp {f : FuncId} {np : Nat} {c : C} {rs : List RV} {vs : List V} {H : Hp} {top : Nat} {R : V → Hp → Nat → Prop} (hm : P.follows .mixedOrders = true) (hok : okF P f np c rs = true) (hl : vs.length = np) (h : wp P Y c (retR rs R) ⟨argE 0 vs, H, top⟩) : RefC P Y f vs H top R := by
  unfold okF at hok
  split at hok
  · rename_i fn hfn
    simp only [Bool.and_eq_true, bne_iff_ne, ne_eq, decide_eq_true_eq] at hok
    obtain ⟨⟨⟨hname, hbody⟩, hres⟩, hnp⟩ := hok
    split at hbody
    · rename_i code hcode
      refine ⟨goes_of hfn (by simpa using hname) hcode, fun w0 w G σ D vals hrel hD hv hYk => ?_⟩
      let Γ : Cx := { w0 := w0, G0 := G, σ0 := σ, D0 := D, nx0 := top, wE := w, nt := fn.ntmps, hD0 := hD, hwE := hrel.old.size }
      have hs := args_sr (Γ := Γ) (vs := vs) (vals := vals) hrel hv (by show vs.length ≤ fn.ntmps; omega) rfl
      have hw := wp_dom (b := ⟨argE 0 vs, H, top⟩) ⟨Nat.le_refl _, fun _ _ h => h⟩ h
      have fend : ∀ (a' : Act) (w' : World) (st : St) (ex : Ex), (∀ id, ex ≠ .ex id) → (retR rs R ex st ∧ Dom ⟨argE 0 vs, H, top⟩ st) → SR Γ st a' w' → LeavesInM Fence.wide 0 P fn a'.tmps (Post w0 w G σ H D top R) a'.defers .returning w' := by
        intro a' w' st ex hne hk hs'
        obtain ⟨hk, hdom⟩ := hk
        obtain ⟨_, _, _, _, _, _, _, _, _, hmk, _⟩ := id hs'
        refine leaves_marks _ _ hmk fun w2 hsh => ?_
        obtain ⟨G', σ', a1, a2, a3, a4, a5, a6⟩ := hs'.shut hsh hrel.old.size
        have hk' : (match resV st rs with | some v => ∃ H', HS H' st.H ∧ R v H' st.nx | none => False) := by
          cases ex with
          | ex id => exact absurd rfl (hne id)
          | nm => exact hk
          | rt => exact hk
        split at hk'
        · rename_i v hv
          obtain ⟨y, hy, hvy⟩ := results_sound a4 (fun n v e => by simpa [Act.eval] using a5 n v e) hres hv
          obtain ⟨H2, hH2, hk'⟩ := hk'
          refine ⟨y, hy, v, y, H2, st.nx, G', σ', rfl, hk', hdom.1, fun j hj hn => ?_, a6, a1, a3, a2, a4.sub hH2, hvy⟩
          cases e : H2 j with
          | none => rfl
          | some ob => have := hH2 j ob e; rw [hdom.2 j hj hn] at this; cases this
        · exact hk'.elim
      refine callsIn_of_wp_marks hfn hcode trivial (wpIn_mono (wp_sound hm (Γ := Γ) (.inl rfl) (fun l e => by cases e) hYk hbody hs hw) fun e a' w' hh => ?_)
      cases e with
      | normal => obtain ⟨st, hk, hs'⟩ := hh; exact fend a' w' st .nm (fun _ h => by cases h) hk hs'
      | ret => obtain ⟨st, hk, hs'⟩ := hh; exact fend a' w' st .rt (fun _ h => by cases h) hk hs'
      | exit id => obtain ⟨st, hk, hs'⟩ := hh; exact hk.1.elim
      | goto _ => exact hh.elim
      | panic _ => exact hh.elim
      | outgrown => exact hh.elim
    · cases hbody
  · cases hok

end Go.Dp
