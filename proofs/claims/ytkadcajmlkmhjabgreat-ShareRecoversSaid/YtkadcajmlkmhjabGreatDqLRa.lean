import Derived.Test.YtkadcajmlkmhjabGreatDqF3
import Derived.Test.YtkadcajmlkmhjabGreatDqE7
import Derived.Test.YtkadcajmlkmhjabGreatDqD3
import Derived.Test.YtkadcajmlkmhjabGreatDqAw
import Derived.Test.YtkadcajmlkmhjabGreatDqG1
import Derived.Test.YtkadcajmlkmhjabGreatDsF4
namespace Go.Dp
open Go.RowKit Go.Proofs
attribute [local irreducible] wp wpOps wpOp1 CallW CallT kSeq kBlk kLoop kReg retP retR kAsg kRound kRf kCut kItr
set_option linter.unusedVariables false
set_option linter.unusedSimpArgs false

set_option maxRecDepth 10000 in
set_option maxHeartbeats 1000000 in
theorem k14 {R P G : Int} (h : GroupI R P G) (X S : List Int) (hl : S.length = X.length) (he : chkE P X S = 0) : PureC Tryz.prog 14 [grp R P G, slI X, slI S] (fun r => r = slI (padL (lagO P X X S []) X.length)) := by
  have hP := h.hP
  obtain ⟨_, hlen, hrX, hrS, hnd⟩ := chkE_zero he
  have hInX : InF P X := fun x hx => by have := hrX x hx; omega
  have c1 := k57 P h.pP hP
  have c2 := k59 X (by omega) (by omega)
  have c3 := k59 S (by omega) (by omega)
  have c4 := k58 P (by omega) X S hl (by omega) (by omega) hInX hrS hnd
  have hNl := (lagO_all h.pP hP.1 hl.symm hInX hrS hnd).2.1
  obtain ⟨N, hN⟩ : ∃ N, N = lagO P X X S [] := ⟨_, rfl⟩
  rw [← hN] at c4 hNl ⊢
  clear h
  refine pureC_of_wp .x mixed ok14 rfl ?_
  unfold c14
  dsimp only [argE, refV] at c1 c4 ⊢
  refine W.run ?_
  rw [zeros_map]
  refine W.lp (fun y : Nat × List Int => [(9, slI N), (10, .ref 160 0 0 X.length), (11, .int .i64 (y.1 : Int))]) (fun y => Hp.put (fun _ => none) 160 { cells := y.2.map (V.int .i64), sz := 1 })
    (fun y => y.1 ≤ N.length ∧ y.2 = N.take y.1 ++ List.replicate (X.length - y.1) 0) (fun y => N.length - y.1) (0, List.replicate X.length 0) rfl (HS.put rfl (HS.emp _)) ⟨by dsimp only; omega, by simp⟩ ?_
  rintro ⟨i, C⟩ nx ⟨hi, hC⟩ hnx
  dsimp only at hi hC ⊢
  have hCl : C.length = X.length := by rw [hC]; simp; omega
  by_cases hlt : i < N.length
  · have hCi : i < C.length := by omega
    refine W.run ?_
    refine W.kl (i + 1, C.set i N[i]) rfl (HS.put ?_ (HS.refl _)) (by omega) ⟨by dsimp only; omega, ?_⟩ (by dsimp only; omega)
    · rw [List.set_eq_take_append_cons_drop, if_pos hCi]; simp
    · dsimp only
      rw [hC, ← List.take_append_getElem hlt, List.append_assoc, show X.length - i = (X.length - (i + 1)) + 1 by omega, List.replicate_succ]
      have : i = (N.take i).length := by simp; omega
      conv => lhs; arg 2; rw [this]
      rw [List.set_append_right _ _ (Nat.le_refl _)]
      simp
  · have : i = N.length := by omega
    subst this
    rw [List.take_length] at hC
    have e : padL N X.length = C := hC.symm
    rw [e]
    refine W.run ?_
    rw [← hCl]
set_option maxRecDepth 10000 in
set_option maxHeartbeats 1000000 in
theorem k13 {R P G : Int} (X S : List Int) (hX : X.length < 2 ^ 40) (hS : S.length < 2 ^ 40) : PureC Tryz.prog 13 [grp R P G, slI X, slI S] (fun r => r = .int .i64 (chkE P X S)) := by
  obtain ⟨E, hE⟩ : ∃ E, E = chkE P X S := ⟨_, rfl⟩
  rw [← hE]
  unfold chkE at hE
  refine pureC_of_wp .x mixed ok13 rfl ?_
  unfold c13
  dsimp only [argE]
  by_cases hl : X.length = S.length
  case neg =>
    rw [if_pos hl] at hE
    subst hE
    refine W.run ?_
    rfl
  rw [if_neg (by omega)] at hE
  by_cases h1 : X.length < 1
  · rw [if_pos (.inl h1)] at hE
    subst hE
    refine W.run ?_
    rfl
  by_cases h2 : 64 < X.length
  · rw [if_pos (.inr h2)] at hE
    subst hE
    refine W.run ?_
    rfl
  rw [if_neg (by omega)] at hE
  refine W.run ?_
  refine W.lp (fun i : Nat => [(1, slI X), (2, slI S), (3, .ptr 0 0 0), (7, .int .i64 (i : Int))]) (fun _ => Hp.put (fun _ => none) 0 { cells := [.int .i64 R, .int .i64 P, .int .i64 G], sz := 3 })
    (fun i => i ≤ X.length ∧ (∀ x ∈ X.take i, 1 ≤ x ∧ x < P) ∧ (∀ x ∈ S.take i, 0 ≤ x ∧ x < P)) (fun i => X.length - i) 0 rfl (HS.refl _) ⟨by omega, by simp, by simp⟩ ?_
  rintro i nx ⟨hi, hx, hs⟩ hnx
  by_cases hlt : i < X.length
  · have hlt2 : i < S.length := by omega
    have c1 := k29 (R := R) (P := P) (G := G) S[i]
    have hbad : ¬ ((1 ≤ X[i] ∧ X[i] < P) ∧ (0 ≤ S[i] ∧ S[i] < P)) → E = 1 := fun hn => by
      rw [hE, if_neg]
      rw [Bool.and_eq_true, List.all_eq_true, List.all_eq_true]
      rintro ⟨a, b⟩
      exact hn ⟨of_decide_eq_true (a _ (List.getElem_mem hlt)), of_decide_eq_true (b _ (List.getElem_mem hlt2))⟩
    clear hE
    by_cases g1 : 1 ≤ X[i]
    case neg =>
      obtain rfl := hbad (fun h => g1 h.1.1)
      refine W.run ?_
      rfl
    by_cases g2 : X[i] < P
    case neg =>
      obtain rfl := hbad (fun h => g2 h.1.2)
      refine W.run ?_
      rfl
    by_cases g3 : 0 ≤ S[i] ∧ S[i] < P
    case neg =>
      obtain rfl := hbad (fun h => g3 h.2)
      rw [decide_eq_false g3] at c1
      refine W.run ?_
      rfl
    rw [decide_eq_true g3] at c1
    refine W.run ?_
    refine W.kl (i + 1) rfl (HS.refl _) (by omega) ⟨by omega, fun x hx2 => ?_, fun x hx2 => ?_⟩ (by omega)
    · rw [← List.take_append_getElem hlt, List.mem_append, List.mem_singleton] at hx2
      rcases hx2 with h | rfl
      · exact hx x h
      · exact ⟨g1, g2⟩
    · rw [← List.take_append_getElem hlt2, List.mem_append, List.mem_singleton] at hx2
      rcases hx2 with h | rfl
      · exact hs x h
      · exact g3
  have hi' : i = X.length := by omega
  subst hi'
  rw [List.take_length] at hx
  rw [hl, List.take_length] at hs
  have hall : ((X.all fun x => decide (1 ≤ x ∧ x < P)) && (S.all fun s => decide (0 ≤ s ∧ s < P))) = true := by
    rw [Bool.and_eq_true, List.all_eq_true, List.all_eq_true]
    exact ⟨fun x hx' => decide_eq_true (hx x hx'), fun x hx' => decide_eq_true (hs x hx')⟩
  rw [if_pos hall] at hE
  clear hx hs hall
  refine W.run ?_
  refine W.lp (fun i : Nat => [(1, slI X), (8, .int .i64 (i : Int))]) (fun _ _ => none) (fun i => i ≤ X.length ∧ (X.take i).Nodup) (fun i => X.length - i) 0 rfl (HS.emp _) ⟨by omega, by simp⟩ ?_
  rintro i nx1 ⟨hi, hnd⟩ hnx1
  by_cases hlt : i < X.length
  · refine W.run ?_
    refine W.lp (fun j : Nat => [(1, slI X), (8, .int .i64 (i : Int)), (9, .int .i64 (j : Int))]) (fun _ _ => none) (fun j => j ≤ i ∧ X[i] ∉ X.take j) (fun j => i - j) 0 rfl (HS.emp _) ⟨by omega, by simp⟩ ?_
    rintro j nx2 ⟨hj, hni⟩ hnx2
    by_cases hjt : j < i
    · have hjX : j < X.length := by omega
      by_cases he : X[i] = X[j]
      · have : E = 81 := by
          rw [hE, if_neg]
          intro hn
          have := nodup_get hn hlt hjX he
          omega
        subst this
        refine W.run ?_
        rfl
      · refine W.run ?_
        refine W.kl (j + 1) rfl (HS.refl _) (by omega) ⟨by omega, ?_⟩ (by omega)
        rw [← List.take_append_getElem hjX, List.mem_append, List.mem_singleton]
        rintro (h | h)
        · exact hni h
        · exact he h
    · have : j = i := by omega
      subst this
      refine W.run ?_
      refine W.kl (j + 1) rfl (HS.refl _) (by omega) ⟨by omega, ?_⟩ (by omega)
      rw [← List.take_append_getElem hlt]
      exact nodup_snoc.2 ⟨hnd, hni⟩
  · have : i = X.length := by omega
    subst this
    rw [List.take_length] at hnd
    rw [if_pos hnd] at hE
    subst hE
    refine W.run ?_
    rfl
end Go.Dp

namespace Go.Dp
open Go.RowKit Go.Proofs
attribute [local irreducible] wp wpOps wpOp1 CallW CallT kSeq kBlk kLoop kReg retP retR kAsg kRound kRf kCut kItr
set_option linter.unusedVariables false
set_option linter.unusedSimpArgs false

/-- the place a number stands for -/
def plI (P z : Int) : Int := 1 + z % 18446744073709551616 % (P - 1)
/-- places -/
def plM (P : Int) : List Int → List Int → List Int
  | [], acc => acc
  | z :: l, acc => if acc.length < 20 then plM P l (if plI P z ∈ acc then acc else acc ++ [plI P z]) else acc
theorem plM_drop {P : Int} {L acc : List Int} {i : Nat} (h : i < L.length) (ha : acc.length < 20) : plM P (L.drop i) acc = plM P (L.drop (i + 1)) (if plI P L[i] ∈ acc then acc else acc ++ [plI P L[i]]) := by
  rw [List.drop_eq_getElem_cons h, plM, if_pos ha]
theorem plM_full {P : Int} {acc : List Int} (ha : ¬ acc.length < 20) : ∀ L, plM P L acc = acc
  | [] => rfl
  | z :: l => by rw [plM, if_neg ha]
theorem plI_rng {P z : Int} (hP : 3 ≤ P) : 1 ≤ plI P z ∧ plI P z < P := by
  unfold plI
  have : 0 ≤ z % 18446744073709551616 % (P - 1) ∧ z % 18446744073709551616 % (P - 1) < P - 1 := emod_rng (by omega)
  omega
theorem plM_ok {P : Int} (hP : 3 ≤ P) : ∀ (L acc : List Int), acc.Nodup → (∀ x ∈ acc, 1 ≤ x ∧ x < P) → acc.length ≤ 20 → (plM P L acc).Nodup ∧ (∀ x ∈ plM P L acc, 1 ≤ x ∧ x < P) ∧ (plM P L acc).length ≤ 20
  | [], acc, h1, h2, h3 => ⟨h1, h2, h3⟩
  | z :: l, acc, h1, h2, h3 => by
    rw [plM]
    split
    · rename_i hl
      refine plM_ok hP l _ ?_ ?_ ?_
      · split
        · exact h1
        · exact nodup_snoc.2 ⟨h1, by assumption⟩
      · split
        · exact h2
        · intro x hx
          rcases List.mem_append.1 hx with h | h
          · exact h2 x h
          · rw [List.mem_singleton.1 h]; exact plI_rng hP
      · split
        · exact h3
        · rw [List.length_append, List.length_singleton]; omega
    · exact ⟨h1, h2, h3⟩
/-- what places answers -/
def plA (P : Int) (L : List Int) : List Int := if (plM P L []).length = 0 then [1] else plM P L []
theorem plA_ok {P : Int} (hP : 3 ≤ P) (L : List Int) : (plA P L).Nodup ∧ (∀ x ∈ plA P L, 1 ≤ x ∧ x < P) ∧ (plA P L).length ≤ 20 ∧ 1 ≤ (plA P L).length := by
  obtain ⟨h1, h2, h3⟩ := plM_ok hP L [] (by simp) (by simp) (by simp)
  unfold plA
  split
  · exact ⟨by simp, by simp; omega, by simp, by simp⟩
  · exact ⟨h1, h2, h3, by omega⟩

set_option maxRecDepth 10000 in
set_option maxHeartbeats 1000000 in
theorem k16 {R P G : Int} (hP : 3 ≤ P ∧ P ≤ 65521) (L : List Int) (hlen : L.length ≤ maxLen) (hL : ∀ z ∈ L, -2^63 ≤ z ∧ z < 2^63) : PureC Tryz.prog 16 [grp R P G, slI L, .int .i64 20] (fun r => r = .own ((plA P L).map (V.int .i64)) (plA P L).length 1) := by
  have hml : maxLen = 9223372036854775807 := by decide
  rw [hml] at hlen
  clear hml
  refine pureC_of_wp (.s 1) mixed ok16 rfl ?_
  unfold c16
  dsimp only [argE]
  refine W.run ?_
  refine W.lp (fun y : Nat × List Int => [(1, slI L), (2, .int .i64 20), (3, .ptr 0 0 0), (7, .ref 16 y.2.length 0 y.2.length), (8, .int .i64 (y.1 : Int))]) (fun y => (Hp.put (fun _ => none) 0 { cells := [.int .i64 R, .int .i64 P, .int .i64 G], sz := 3 }).put 16 { cells := y.2.map (V.int .i64), sz := 1, ver := y.2.length, nl := if y.2.length = 0 then 1 else 0 })
    (fun y => y.1 ≤ L.length ∧ y.2.length ≤ 20 ∧ plM P (L.drop y.1) y.2 = plM P L []) (fun y => L.length - y.1) (0, []) rfl (HS.refl _) ⟨by dsimp only; omega, by simp, by rw [List.drop_zero]⟩ ?_
  rintro ⟨i, acc⟩ nx ⟨hi, hal, hrec⟩ hnx
  dsimp only at hi hal hrec ⊢
  have fin : plM P L [] = acc → (plA P L = if acc.length = 0 then [1] else acc) := fun h => by unfold plA; rw [h]
  by_cases hlt : i < L.length
  case neg =>
    have hi' : i = L.length := by omega
    rw [hi', List.drop_length] at hrec
    have hA := fin hrec.symm
    by_cases h0 : acc.length = 0
    · rw [if_pos h0] at hA
      rw [hA]
      refine W.run ?_
      rfl
    · rw [if_neg h0] at hA
      rw [hA]
      refine W.run ?_
      rfl
  by_cases hal2 : acc.length < 20
  case neg =>
    rw [plM_full hal2] at hrec
    have hA := fin hrec.symm
    rw [if_neg (by omega)] at hA
    rw [hA]
    refine W.run ?_
    rfl
  rw [plM_drop hlt hal2] at hrec
  have hz := hL L[i] (List.getElem_mem hlt)
  have hz2 : 0 ≤ L[i] % 18446744073709551616 ∧ L[i] % 18446744073709551616 < 18446744073709551616 := emod_rng (by omega)
  have hz3 : 0 ≤ L[i] % 18446744073709551616 % (P - 1) ∧ L[i] % 18446744073709551616 % (P - 1) < P - 1 := emod_rng (by omega)
  refine W.run ?_
  have hv : 1 + L[i] % 18446744073709551616 % (P - 1) = plI P L[i] := rfl
  rw [hv]
  have hvr := plI_rng (P := P) (z := L[i]) hP.1
  obtain ⟨v, hve⟩ : ∃ v, v = plI P L[i] := ⟨_, rfl⟩
  rw [← hve] at hrec hvr ⊢
  clear hve hv hz hz2 hz3 fin
  refine W.lp (fun y : Nat × Bool => [(1, slI L), (2, .int .i64 20), (3, .ptr 0 0 0), (7, .ref 16 acc.length 0 acc.length), (8, .int .i64 (i : Int)), (9, .int .i64 v), (10, .bool y.2), (11, .int .i64 (y.1 : Int))]) (fun _ => (Hp.put (fun _ => none) 0 { cells := [.int .i64 R, .int .i64 P, .int .i64 G], sz := 3 }).put 16 { cells := acc.map (V.int .i64), sz := 1, ver := acc.length, nl := if acc.length = 0 then 1 else 0 })
    (fun y => y.1 ≤ acc.length ∧ (y.2 = true ↔ v ∉ acc.take y.1)) (fun y => acc.length - y.1) (0, true) rfl (HS.refl _) ⟨by dsimp only; omega, by simp⟩ ?_
  rintro ⟨j, b⟩ nx1 ⟨hj, hb⟩ hnx1
  dsimp only at hj hb ⊢
  by_cases hjt : j < acc.length
  · have hmem : v ∈ acc.take (j + 1) ↔ v ∈ acc.take j ∨ v = acc[j] := by
      rw [← List.take_append_getElem hjt, List.mem_append, List.mem_singleton]
    cases b
    · refine W.run ?_
      refine W.kl (j + 1, false) rfl (HS.put (by rw [if_neg (by omega)]) (HS.refl _)) (by omega) ⟨by dsimp only; omega, ?_⟩ (by dsimp only; omega)
      have : v ∈ acc.take j := Classical.byContradiction fun h => by have := hb.2 h; cases this
      rw [hmem]; simp [this]
    · have h1 := hb.1 rfl
      by_cases he : acc[j] = v
      · refine W.run ?_
        refine W.kl (j + 1, false) rfl (HS.put (by rw [if_neg (by omega)]) (HS.refl _)) (by omega) ⟨by dsimp only; omega, ?_⟩ (by dsimp only; omega)
        rw [hmem]; simp [he]
      · refine W.run ?_
        refine W.kl (j + 1, true) rfl (HS.put (by rw [if_neg (by omega)]) (HS.refl _)) (by omega) ⟨by dsimp only; omega, ?_⟩ (by dsimp only; omega)
        rw [hmem]; simp [h1, Ne.symm he]
  · have : j = acc.length := by omega
    subst this
    rw [List.take_length] at hb
    cases b
    · have hin : v ∈ acc := Classical.byContradiction fun h => by have := hb.2 h; cases this
      rw [if_pos hin] at hrec
      refine W.run ?_
      refine W.kl (i + 1, acc) rfl (HS.refl _) (by omega) ⟨by dsimp only; omega, hal, hrec⟩ (by dsimp only; omega)
    · have hin := hb.1 rfl
      rw [if_neg hin] at hrec
      refine W.run ?_
      refine W.kl (i + 1, acc ++ [v]) (by dsimp only; rw [List.length_append, List.length_singleton]; rfl) (HS.skip (HS.put ?_ (HS.refl _)) (by simp only [Hp.put]; repeat (rw [if_neg (by omega)])) _) (by omega) ⟨by dsimp only; omega, by simp; omega, hrec⟩ (by dsimp only; omega)
      dsimp only
      rw [List.length_append, List.length_singleton, if_neg (by omega), List.map_append]; rfl
end Go.Dp

namespace Go.Dp
open Go.RowKit Go.Proofs
attribute [local irreducible] wp wpOps wpOp1 CallW CallT kSeq kBlk kLoop kReg retP retR kAsg kRound kRf kCut kItr
set_option linter.unusedVariables false
set_option linter.unusedSimpArgs false

/-- Recover answers the polynomial at nought -/
theorem rec_is {P : Int} (h : PrimeI P) (hP : 3 ≤ P) {X S T : List Int} (hl : X.length = S.length) (h0 : 0 < T.length) (hX : InF P X) (hS : InF P S) (hn : X.Nodup) (hT : T = padL (lagO P X X S []) X.length) : recL P X 0 X S = T[0] := by
  obtain ⟨a1, a2, a3⟩ := lagO_all h hP hl hX hS hn
  have hSe : S = X.map (lookI X S) := by
    refine List.ext_getElem (by simpa using hl.symm) fun i h1 h2 => ?_
    rw [List.getElem_map, lookI_get (by omega) h1 hn]
  have hT0 : ∀ c ∈ T, 0 ≤ c ∧ c < P := fun c hc => by
    rw [hT] at hc
    rcases List.mem_append.1 hc with h1 | h1
    · exact a1 c h1
    · exact InF.rep (by omega) _ c h1
  have hev : evI T 0 = evI (lagO P X X S []) 0 := by rw [hT]; exact evI_pad 0 _ _
  have h1 : recL P X 0 X S = evI (lagO P X X S []) 0 % P := by
    conv => lhs; arg 5; rw [hSe]
    rw [recL_lag hP X _ 0 (by omega) rfl, Int.zero_add]
    exact lagrange h hP (fun x hx => hX x hx) hn a2 (fun x hx => (a3 x hx).symm) 0
  rw [h1, ← hev]
  match T, h0 with
  | a :: l, _ =>
    show (a + 0 * evI l 0) % P = a
    have h2 := hT0 a (by simp)
    rw [Int.zero_mul, Int.add_zero]
    exact Int.emod_eq_of_lt h2.1 h2.2

set_option maxRecDepth 10000 in
set_option maxHeartbeats 4000000 in
theorem k3 (p : Int) (L M : List Int) (b0 : B64 p) (hL : L.length ≤ maxLen) (hM : M.length ≤ maxLen) (wL : ∀ z ∈ L, B64 z) (wM : ∀ z ∈ M, B64 z) :
    PureC Tryz.prog 3 [.int .i64 p, .sl (L.map (V.int .i64)) L.length, .sl (M.map (V.int .i64)) M.length] (fun r => r = .bool true) := by
  obtain ⟨R, P, G, hg, hk⟩ := k9 (p := p) (by unfold B64 at b0; omega) (by unfold B64 at b0; omega)
  have hP := hg.hP
  have r1 : PureC Tryz.prog 10 [slI L, .int .i64 66] (fun r => r = .own ((L.take 66).map (V.int .i64)) (L.take 66).length 1) := k10 L L.length rfl hL 66 (by omega)
  have r2 : PureC Tryz.prog 10 [slI M, .int .i64 66] (fun r => r = .own ((M.take 66).map (V.int .i64)) (M.take 66).length 1) := k10 M M.length rfl hM 66 (by omega)
  have cpl := k16 (R := R) (G := G) hP L hL (fun z hz => by have := wL z hz; unfold B64 at this; omega)
  obtain ⟨Q, hQ⟩ : ∃ Q, Q = plA P L := ⟨_, rfl⟩
  obtain ⟨_, _, hQ1, hQ2⟩ := plA_ok hP.1 L
  have cnum := k17l (R := R) (G := G) hP M M.length rfl hM (fun z hz => by have := wM z hz; unfold B64 at this; omega) Q.length (by rw [hQ]; omega)
  rw [← hQ] at cpl hQ1 hQ2
  obtain ⟨U, hU⟩ : ∃ U, U = numM P M Q.length := ⟨_, rfl⟩
  have hUl : U.length = Q.length := by rw [hU]; exact numM_len P M Q.length
  rw [← hU] at cnum
  have ch := k18
  obtain ⟨X0, hX0⟩ : ∃ X0, X0 = L.take 66 := ⟨_, rfl⟩
  obtain ⟨S0, hS0⟩ : ∃ S0, S0 = M.take 66 := ⟨_, rfl⟩
  have hX0l : X0.length ≤ 66 := by rw [hX0]; simp; omega
  have hS0l : S0.length ≤ 66 := by rw [hS0]; simp; omega
  rw [← hX0] at r1
  rw [← hS0] at r2
  clear hQ hU hX0 hS0
  refine pureC_of_wp .x mixed ok3 rfl ?_
  unfold c3
  dsimp only [argE]
  refine W.run ?_
  clear hk r1 r2
  refine W.lp (fun y : Nat × List Int × List Int => [(1, slI L), (2, slI M), (7, .ptr 48 0 0), (8, .ptr 56 0 0), (9, slI y.2.1), (10, slI y.2.2), (11, .int .i64 (y.1 : Int))]) (fun _ => (Hp.put (fun _ => none) 48 { cells := [.int .i64 R, .int .i64 P, .int .i64 G], sz := 3 }).put 56 { cells := [.int .i64 R, .int .i64 P, .int .i64 G], sz := 3 })
    (fun y => y.1 ≤ 2 ∧ y.2.1.length ≤ 66 ∧ y.2.2.length ≤ 66) (fun y => 2 - y.1) (0, X0, S0) rfl (HS.refl _) ⟨by dsimp only; omega, hX0l, hS0l⟩ ?_
  rintro ⟨t, X, S⟩ nx ⟨ht, hX, hS⟩ hnx
  dsimp only at ht hX hS ⊢
  clear hX0l hS0l
  by_cases htt : t < 2
  case neg =>
    have : t = 2 := by omega
    subst this
    refine W.run ?_
    rfl
  obtain ⟨E, hE⟩ : ∃ E, E = chkE P X S := ⟨_, rfl⟩
  have cpa := k13 (R := R) (P := P) (G := G) X S (by omega) (by omega)
  rw [← hE] at cpa
  by_cases he : E = 0
  case neg =>
    have crec := k11e hg X S (by omega) (by omega) (by rw [← hE]; exact he)
    have cpol := k12e hg X S (by omega) (by omega) (by rw [← hE]; exact he)
    rw [← hE] at crec cpol
    clear hg hE
    refine W.run ?_
    exact W.kl (t + 1, Q, U) rfl (HS.refl _) (by omega) ⟨by dsimp only; omega, by dsimp only; omega, by dsimp only; omega⟩ (by dsimp only; omega)
  subst he
  have hz := hE.symm
  obtain ⟨hl, hlen, hrX, hrS, hnd⟩ := chkE_zero hz
  have hInX : InF P X := fun x hx => by have := hrX x hx; omega
  have crec0 := k11 hg X S hl.symm hz
  have crec : PureC Tryz.prog 11 [grp R P G, slI X, slI S] (fun r => r = .tup [.int .i64 (recL P X 0 X S), .int .i64 0]) := by
    unfold slI; rw [← hl]; exact crec0
  clear crec0
  have cth := k14 hg X S hl.symm hz
  obtain ⟨T, hT⟩ : ∃ T, T = padL (lagO P X X S []) X.length := ⟨_, rfl⟩
  have hTl : T.length = X.length := by
    have := (lagO_all hg.pP hP.1 hl hInX hrS hnd).2.1
    rw [hT]; unfold padL; simp; omega
  have hrec := rec_is hg.pP hP.1 hl (by omega) hInX hrS hnd hT
  rw [hrec] at crec
  rw [← hT] at cth
  by_cases h16 : X.length ≤ 16
  · have cpol := k12 hg X S hl.symm hz h16
    have hpe : padL (newtF P X S [] [1]) X.length = T := by rw [hT]; exact same_poly hg.pP hP.1 hl hInX hrS hnd
    rw [hpe] at cpol
    have csame := k15 T T (by omega) (by omega)
    rw [sameB_iff.2 rfl] at csame
    clear hg hE hrec hpe hT hz hrX hrS hnd hInX
    refine W.run ?_
    exact W.kl (t + 1, Q, U) rfl (HS.refl _) (by omega) ⟨by dsimp only; omega, by dsimp only; omega, by dsimp only; omega⟩ (by dsimp only; omega)
  · have cpol := k12l hg X S (by omega) (by omega) hz (by omega)
    clear hg hE hrec hT hz hrX hrS hnd hInX
    refine W.run ?_
    exact W.kl (t + 1, Q, U) rfl (HS.refl _) (by omega) ⟨by dsimp only; omega, by dsimp only; omega, by dsimp only; omega⟩ (by dsimp only; omega)
end Go.Dp

namespace Go.Dp
open Go.RowKit Go.Proofs
def tys3 : List Ty := [.int .i64, .sl (.int .i64), .sl (.int .i64)]
theorem law3 : ∀ xs, Ty.okArgs tys3 xs → PureC Tryz.prog 3 xs (fun r => r = .bool true) := by
  intro xs h
  obtain ⟨x, l, rfl, hx, h⟩ := okArgs_cons h
  obtain ⟨y, l, rfl, hy, h⟩ := okArgs_cons h
  obtain ⟨z, l, rfl, hz, h⟩ := okArgs_cons h
  obtain rfl := okArgs_nil h
  obtain ⟨p, rfl, hp⟩ := okArg_i64 hx
  obtain ⟨L, rfl, hL, wL⟩ := okArg_longs hy
  obtain ⟨M, rfl, hM, wM⟩ := okArg_longs hz
  exact k3 p L M hp hL hM wL wM
end Go.Dp
