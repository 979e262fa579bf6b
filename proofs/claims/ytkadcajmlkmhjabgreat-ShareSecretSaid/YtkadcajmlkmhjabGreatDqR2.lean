import Derived.Test.YtkadcajmlkmhjabGreatDqR1
namespace Go.Dp
open Go.RowKit Go.Proofs
attribute [local irreducible] wp wpOps wpOp1 CallW CallT kSeq kBlk kLoop kReg retP retR kAsg kRound kRf kCut kItr
set_option linter.unusedVariables false
set_option linter.unusedSimpArgs false

/-- a map from numbers to true -/
def seenM (D : List Int) : List (V × V) := D.map fun a => (V.int .i64 a, V.bool true)
def idxM (x : Int) : List Int → Nat → Nat
  | [], i => i
  | a :: D, i => if x = a then i else idxM x D (i + 1)
theorem find_in {x : Int} : ∀ {D : List Int} {i : Nat}, x ∈ D → findV 0 (.int .i64 x) (seenM D) i = some (some (idxM x D i, .bool true))
  | a :: D, i, h => by
    simp only [seenM, List.map_cons, findV, keyEq, if_true, Option.bind_some, idxM]
    by_cases e : x = a
    · subst e; simp
    · have hD : x ∈ D := by
        rcases List.mem_cons.1 h with h | h
        · exact absurd h e
        · exact h
      have := find_in (D := D) (i := i + 1) hD
      simp only [seenM] at this
      simp [e, this]
theorem find_out {x : Int} : ∀ {D : List Int} {i : Nat}, x ∉ D → findV 0 (.int .i64 x) (seenM D) i = some none
  | [], i, h => rfl
  | a :: D, i, h => by
    have h1 : x ≠ a ∧ x ∉ D := by simpa using h
    have := find_out (D := D) (i := i + 1) h1.2
    simp only [seenM] at this
    simp [seenM, findV, keyEq, h1.1, this]
theorem idx_same {x : Int} : ∀ {D : List Int} {i : Nat}, x ∈ D → ∃ j, idxM x D i = i + j ∧ D[j]? = some x
  | a :: D, i, h => by
    by_cases e : x = a
    · subst e; exact ⟨0, by simp [idxM], rfl⟩
    · have hD : x ∈ D := by
        rcases List.mem_cons.1 h with h | h
        · exact absurd h e
        · exact h
      obtain ⟨j, h1, h2⟩ := idx_same (D := D) (i := i + 1) hD
      exact ⟨j + 1, by simp [idxM, e, h1]; omega, by simpa using h2⟩
theorem put_in {x : Int} {D : List Int} (h : x ∈ D) : (seenM D).take (idxM x D 0) ++ (V.int .i64 x, V.bool true) :: (seenM D).drop (idxM x D 0 + 1) = seenM D := by
  obtain ⟨j, h1, h2⟩ := idx_same (i := 0) h
  rw [h1, Nat.zero_add]
  obtain ⟨hlt, h3⟩ := List.getElem?_eq_some_iff.1 h2
  have h4 : j < (seenM D).length := by simpa [seenM] using hlt
  have h5 : (seenM D)[j] = (V.int .i64 x, V.bool true) := by simp [seenM, h3]
  rw [← h5, ← List.drop_eq_getElem_cons h4, List.take_append_drop]
attribute [local go_sem] find_in find_out put_in

/-- what checkShares answers -/
def chkE (P : Int) (X S : List Int) : Int :=
  if X.length ≠ S.length then 7 else if X.length < 1 ∨ 64 < X.length then 2 else if (X.all fun x => decide (1 ≤ x ∧ x < P)) && (S.all fun s => decide (0 ≤ s ∧ s < P)) then (if X.Nodup then 0 else 81) else 1

theorem seenM_snoc (D : List Int) (x : Int) : seenM D ++ [(V.int .i64 x, V.bool true)] = seenM (D ++ [x]) := by simp [seenM]

set_option maxRecDepth 10000 in
theorem k46a {R P G : Int} (h : GroupI R P G) (X S : List Int) (hX : X.length < 2 ^ 40) (hS : S.length < 2 ^ 40) (hl : ¬ X.length = S.length) : PureC Tryz.prog 46 [grp R P G, .sl (X.map (V.int .i64)) X.length, .sl (S.map (V.int .i64)) S.length] (fun r => r = .int .i64 7) := by
  have c1 := k43 h
  clear h
  refine pureC_of_wp .x mixed ok46 rfl ?_
  unfold c46
  dsimp only [argE]
  refine W.run ?_
  rfl
theorem nodup_snoc {X : List Int} {x : Int} : (X ++ [x]).Nodup ↔ X.Nodup ∧ x ∉ X := by
  rw [List.nodup_append]
  constructor
  · rintro ⟨h1, _, h3⟩
    exact ⟨h1, fun h => h3 x h x (by simp) rfl⟩
  · rintro ⟨h1, h2⟩
    exact ⟨h1, by simp, fun a ha b hb e => by simp at hb; subst hb; subst e; exact h2 ha⟩

set_option maxRecDepth 10000 in
set_option maxHeartbeats 1000000 in
theorem k46b {R P G : Int} (h : GroupI R P G) (X S : List Int) (hX : X.length < 2 ^ 40) (hl : S.length = X.length) : PureC Tryz.prog 46 [grp R P G, .sl (X.map (V.int .i64)) X.length, .sl (S.map (V.int .i64)) X.length] (fun r => r = .int .i64 (chkE P X S)) := by
  have hP := h.hP
  have c1 := k43 h
  have c2 := k48 X S X.length X.length
  have hit := it77 X S hX hl
  clear h
  obtain ⟨E, hE⟩ : ∃ E, E = chkE P X S := ⟨_, rfl⟩
  rw [← hE]
  unfold chkE at hE
  rw [if_neg (by simp [hl])] at hE
  refine pureC_of_wp .x mixed ok46 rfl ?_
  unfold c46
  dsimp only [argE]
  by_cases h1 : X.length < 1
  · rw [if_pos (.inl h1)] at hE
    subst hE
    refine W.run ?_
    rfl
  by_cases h2 : 64 < X.length
  · rw [if_pos (.inr h2)] at hE
    subst hE
    refine W.run ?_
    rfl
  rw [if_neg (by omega)] at hE
  refine W.run ?_
  refine W.rfi hit YEx.none rfl (fun vs hvs => ?_) (fun z : Bool × List Int => ((((Hp.put (fun _ => none) 0 { cells := [.int .i64 R, .int .i64 P, .int .i64 G], sz := 3 }).put 8 { cells := [.int .i64 0], sz := 1 }).put 160 { cells := [], sz := 0, sp := 2, mp := seenM z.2 }).put 168 { cells := [.mp 160], sz := 1 }).put 184 { cells := [.bool z.1], sz := 1 })
    (fun i z => (∀ x, x ∈ z.2 ↔ x ∈ X.take i) ∧ (z.1 = false ↔ (X.take i).Nodup) ∧ (∀ x ∈ X.take i, 1 ≤ x ∧ x < P) ∧ (∀ x ∈ S.take i, 0 ≤ x ∧ x < P)) (false, []) (HS.refl _) ?_ ?_ ?_ ?_
  · obtain ⟨i, hi, rfl⟩ := List.getElem_of_mem hvs
    simp [ptsV]
  · simp
  · intro i z _
    simp [Hp.put]
  · rintro i vs ⟨b, D⟩ n hi ⟨hD, hb, hx, hs⟩ hn
    obtain ⟨hi1, -⟩ := List.getElem?_eq_some_iff.1 hi
    rw [ptsV_len hl.symm] at hi1
    rw [ptsV_get hi1 (by omega), Option.some.injEq] at hi
    subst hi
    dsimp only [putL] at hD hb ⊢
    have c3 := k65s 1 (P - 1) X[i]
    have c4 := k66s (R := R) (G := G) hP (S[i]'(by omega))
    have hxm : X[i] ∈ X := List.getElem_mem _
    have hsm : S[i]'(by omega) ∈ S := List.getElem_mem _
    have hbad : ¬ ((1 ≤ X[i] ∧ X[i] < P) ∧ (0 ≤ S[i]'(by omega) ∧ S[i]'(by omega) < P)) → E = 1 := fun hn => by
      rw [hE, if_neg]
      rw [Bool.and_eq_true, List.all_eq_true, List.all_eq_true]
      rintro ⟨a, b⟩
      exact hn ⟨of_decide_eq_true (a _ hxm), of_decide_eq_true (b _ hsm)⟩
    clear hE
    by_cases hgx : 1 ≤ X[i] ∧ X[i] < P
    case neg =>
      obtain rfl := hbad (fun h => hgx h.1)
      rw [decide_eq_false (by omega)] at c3
      refine W.run ?_
      refine W.kasg ?_
      refine W.run ?_
      refine W.kitrR _ (HS.skip (HS.refl _) (by simp only [Hp.put]; repeat (rw [if_neg (by omega)])) _) (by simp [Hp.put]) fun m hm => ?_
      refine W.run ?_
      rfl
    rw [decide_eq_true (by omega)] at c3
    by_cases hgs : 0 ≤ S[i]'(by omega) ∧ S[i]'(by omega) < P
    case neg =>
      obtain rfl := hbad (fun h => hgs h.2)
      rw [decide_eq_false hgs] at c4
      refine W.run ?_
      refine W.kasg ?_
      refine W.run ?_
      refine W.kitrR _ (HS.skip (HS.skip (HS.refl _) (by simp only [Hp.put]; repeat (rw [if_neg (by omega)])) _) (by simp only [Hp.put]; repeat (rw [if_neg (by omega)])) _) (by simp [Hp.put]) fun m hm => ?_
      refine W.run ?_
      rfl
    rw [decide_eq_true hgs] at c4
    have hx' : ∀ x ∈ X.take (i + 1), 1 ≤ x ∧ x < P := fun x hx2 => by
      rw [← List.take_append_getElem hi1, List.mem_append, List.mem_singleton] at hx2
      rcases hx2 with h | rfl
      · exact hx x h
      · exact hgx
    have hs' : ∀ x ∈ S.take (i + 1), 0 ≤ x ∧ x < P := fun x hx2 => by
      rw [← List.take_append_getElem (by omega : i < S.length), List.mem_append, List.mem_singleton] at hx2
      rcases hx2 with h | rfl
      · exact hs x h
      · exact hgs
    have hnd : (X.take (i + 1)).Nodup ↔ (X.take i).Nodup ∧ X[i] ∉ X.take i := by
      rw [← List.take_append_getElem hi1, nodup_snoc]
    have hmem : ∀ x, x ∈ X.take (i + 1) ↔ x ∈ X.take i ∨ x = X[i] := fun x => by
      rw [← List.take_append_getElem hi1, List.mem_append, List.mem_singleton]
    clear hbad hx hs
    by_cases hin : X[i] ∈ D
    · cases b
      · refine W.run ?_
        refine W.kasg ?_
        refine W.run ?_
        refine W.kitr (true, D) (HS.skip (HS.skip (HS.refl _) (by simp only [Hp.put]; repeat (rw [if_neg (by omega)])) _) (by simp only [Hp.put]; repeat (rw [if_neg (by omega)])) _) ⟨fun x => ?_, ?_, hx', hs'⟩ (by omega)
        · rw [hmem]; dsimp only; rw [hD]; exact ⟨.inl, fun h => h.elim id (fun h => by rw [h, ← hD]; exact hin)⟩
        · rw [hnd]; simp [← hD, hin]
      · refine W.run ?_
        refine W.kasg ?_
        refine W.run ?_
        refine W.kitr (true, D) (HS.skip (HS.skip (HS.refl _) (by simp only [Hp.put]; repeat (rw [if_neg (by omega)])) _) (by simp only [Hp.put]; repeat (rw [if_neg (by omega)])) _) ⟨fun x => ?_, ?_, hx', hs'⟩ (by omega)
        · rw [hmem]; dsimp only; rw [hD]; exact ⟨.inl, fun h => h.elim id (fun h => by rw [h, ← hD]; exact hin)⟩
        · rw [hnd]; simp [← hD, hin]
    · cases b
      · refine W.run ?_
        refine W.kasg ?_
        refine W.run ?_
        rw [seenM_snoc]
        refine W.kitr (false, D ++ [X[i]]) (HS.skip (HS.skip (HS.refl _) (by simp only [Hp.put]; repeat (rw [if_neg (by omega)])) _) (by simp only [Hp.put]; repeat (rw [if_neg (by omega)])) _) ⟨fun x => ?_, ?_, hx', hs'⟩ (by omega)
        · rw [hmem, ← hD]; simp
        · rw [hnd, ← hb, ← hD]; simp [hin]
      · refine W.run ?_
        refine W.kasg ?_
        refine W.run ?_
        rw [seenM_snoc]
        refine W.kitr (true, D ++ [X[i]]) (HS.skip (HS.skip (HS.refl _) (by simp only [Hp.put]; repeat (rw [if_neg (by omega)])) _) (by simp only [Hp.put]; repeat (rw [if_neg (by omega)])) _) ⟨fun x => ?_, ?_, hx', hs'⟩ (by omega)
        · rw [hmem, ← hD]; simp
        · rw [hnd, ← hb]; simp
  · rintro ⟨b, D⟩ n ⟨hD, hb, hx, hs⟩ hn
    dsimp only at hD hb ⊢
    rw [ptsV_len hl.symm, List.take_length] at hD hb hx
    rw [ptsV_len hl.symm, ← hl, List.take_length] at hs
    have hall : ((X.all fun x => decide (1 ≤ x ∧ x < P)) && (S.all fun s => decide (0 ≤ s ∧ s < P))) = true := by
      rw [Bool.and_eq_true, List.all_eq_true, List.all_eq_true]
      exact ⟨fun x hx' => decide_eq_true (hx x hx'), fun x hx' => decide_eq_true (hs x hx')⟩
    rw [if_pos hall] at hE
    cases b
    · rw [if_pos (hb.1 rfl)] at hE
      subst hE
      refine W.run ?_
      rfl
    · rw [if_neg (fun h => by have := hb.2 h; cases this)] at hE
      subst hE
      refine W.run ?_
      rfl
theorem k46 {R P G : Int} (h : GroupI R P G) (X S : List Int) (hX : X.length < 2 ^ 40) (hS : S.length < 2 ^ 40) : PureC Tryz.prog 46 [grp R P G, .sl (X.map (V.int .i64)) X.length, .sl (S.map (V.int .i64)) S.length] (fun r => r = .int .i64 (chkE P X S)) := by
  by_cases hl : X.length = S.length
  · have := k46b h X S hX hl.symm
    rwa [← hl]
  · have e : chkE P X S = 7 := by unfold chkE; rw [if_pos hl]
    rw [e]; exact k46a h X S hX hS hl
end Go.Dp
