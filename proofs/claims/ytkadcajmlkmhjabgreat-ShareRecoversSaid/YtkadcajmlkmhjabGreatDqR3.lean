import Derived.Test.YtkadcajmlkmhjabGreatDqG1
import Derived.Test.YtkadcajmlkmhjabGreatDpIt
namespace Go.Dp
open Go.RowKit Go.Proofs
attribute [local irreducible] wp wpOps wpOp1 CallW CallT kSeq kBlk kLoop kReg retP retR kAsg kRound kRf kCut kItr
set_option linter.unusedVariables false
set_option linter.unusedSimpArgs false

/-- pairs of places and shares -/
def ptsV (X S : List Int) : List (List V) := List.zipWith (fun x s => [V.int .i64 x, V.int .i64 s]) X S
theorem ptsV_len {X S : List Int} (h : X.length = S.length) : (ptsV X S).length = X.length := by simp [ptsV, h]
theorem ptsV_get {X S : List Int} {i : Nat} (hX : i < X.length) (hS : i < S.length) : (ptsV X S)[i]? = some [V.int .i64 X[i], V.int .i64 S[i]] := by
  simp [ptsV, List.getElem?_zipWith, hX, hS]

theorem k48 (X S : List Int) (lx ls : Nat) : PureC Tryz.prog 48 [.sl (X.map (V.int .i64)) lx, .sl (S.map (V.int .i64)) ls] (fun r => r = .clo (.func 77) [] [.fp [.sl (X.map (V.int .i64)) lx] 0, .fp [.sl (S.map (V.int .i64)) ls] 0]) := by
  refine pureC_of_wp .x mixed ok48 rfl ?_
  unfold c48
  dsimp only [argE]
  refine W.run ?_
  rfl

theorem it77 (X S : List Int) (hX : X.length < 2 ^ 40) (hS : S.length = X.length) : Iter Tryz.prog 77 [] [.fp [.sl (X.map (V.int .i64)) X.length] 0, .fp [.sl (S.map (V.int .i64)) X.length] 0] (ptsV X S) := by
  refine iter_of_wp (c := c77) (rs := []) mixed ok77 rfl ?_
  intro Y o y H top I D hI hD hy h0
  rw [ptsV_len hS.symm]
  unfold c77
  dsimp only [argE, List.nil_append, List.cons_append]
  refine W.run ?_
  refine W.loop (fun z : Nat × Hp × Nat => ⟨[(0, .yld o), (2, .fp [.sl (S.map (V.int .i64)) X.length] 0), (6, .sl (X.map (V.int .i64)) X.length), (7, .int .i64 (X.length : Int)), (8, .int .i64 (z.1 : Int))], z.2.1, z.2.2⟩) (fun z => z.1 ≤ X.length ∧ I z.1 z.2.1 z.2.2) (fun z => X.length - z.1) (0, H, top + 24) ⟨by dsimp only; omega, hI _ _ _ _ h0 (by dsimp only; omega)⟩ ?_
  rintro ⟨i, H1, n⟩ ⟨hi, hI1⟩
  dsimp only at hi hI1 ⊢
  by_cases hlt : i < X.length
  · refine W.run ?_
    refine W.yl2 (Ys.put_same _ _ _) (hy i _ H1 _ (ptsV_get hlt (by omega)) (hI _ _ _ _ hI1 (by omega))) ?_
    rintro v H2 t ⟨H3, hs, ⟨rfl, h3⟩ | ⟨rfl, h3⟩⟩ ht
    · refine W.run ?_
      exact W.kl0 H3 hs ⟨(i + 1, H3, _), ⟨by dsimp only; omega, hI _ _ _ _ h3 (by dsimp only; omega)⟩, rfl, by dsimp only; omega⟩ Nat.zero_lt_one
    · refine W.run ?_
      exact W.retR rfl hs (.inr (hD _ _ _ h3 (by dsimp only; omega)))
  · have : i = X.length := by omega
    subst this
    refine W.run ?_
    exact W.retRn rfl (HS.refl _) (.inl (hI _ _ _ _ hI1 (by dsimp only; omega)))
end Go.Dp

namespace Go.Dp
open Go.RowKit Go.Proofs
attribute [local irreducible] wp wpOps wpOp1 CallW CallT kSeq kBlk kLoop kReg retP retR kAsg kRound kRf kCut kItr
set_option linter.unusedVariables false
set_option linter.unusedSimpArgs false

/-- a map from numbers to true -/
def seenM (D : List Int) : List (V × V) := D.map fun a => (V.int .i64 a, V.bool true)
def idxM (x : Int) : List Int → Nat → Nat
  | [], i => i
  | a :: D, i => if x = a then i else idxM x D (i + 1)
theorem find_in {x : Int} : ∀ {D : List Int} {i : Nat}, x ∈ D → findV 0 (.int .i64 x) (seenM D) i = some (some (idxM x D i, .bool true))
  | a :: D, i, h => by
    simp only [seenM, List.map_cons, findV, keyEq, if_true, Option.bind_some, idxM]
    by_cases e : x = a
    · subst e; simp
    · have hD : x ∈ D := by
        rcases List.mem_cons.1 h with h | h
        · exact absurd h e
        · exact h
      have := find_in (D := D) (i := i + 1) hD
      simp only [seenM] at this
      simp [e, this]
theorem find_out {x : Int} : ∀ {D : List Int} {i : Nat}, x ∉ D → findV 0 (.int .i64 x) (seenM D) i = some none
  | [], i, h => rfl
  | a :: D, i, h => by
    have h1 : x ≠ a ∧ x ∉ D := by simpa using h
    have := find_out (D := D) (i := i + 1) h1.2
    simp only [seenM] at this
    simp [seenM, findV, keyEq, h1.1, this]
theorem idx_same {x : Int} : ∀ {D : List Int} {i : Nat}, x ∈ D → ∃ j, idxM x D i = i + j ∧ D[j]? = some x
  | a :: D, i, h => by
    by_cases e : x = a
    · subst e; exact ⟨0, by simp [idxM], rfl⟩
    · have hD : x ∈ D := by
        rcases List.mem_cons.1 h with h | h
        · exact absurd h e
        · exact h
      obtain ⟨j, h1, h2⟩ := idx_same (D := D) (i := i + 1) hD
      exact ⟨j + 1, by simp [idxM, e, h1]; omega, by simpa using h2⟩
theorem put_in {x : Int} {D : List Int} (h : x ∈ D) : (seenM D).take (idxM x D 0) ++ (V.int .i64 x, V.bool true) :: (seenM D).drop (idxM x D 0 + 1) = seenM D := by
  obtain ⟨j, h1, h2⟩ := idx_same (i := 0) h
  rw [h1, Nat.zero_add]
  obtain ⟨hlt, h3⟩ := List.getElem?_eq_some_iff.1 h2
  have h4 : j < (seenM D).length := by simpa [seenM] using hlt
  have h5 : (seenM D)[j] = (V.int .i64 x, V.bool true) := by simp [seenM, h3]
  rw [← h5, ← List.drop_eq_getElem_cons h4, List.take_append_drop]
attribute [local go_sem] find_in find_out put_in

/-- what checkShares answers -/
def chkE (P : Int) (X S : List Int) : Int :=
  if X.length ≠ S.length then 7 else if X.length < 1 ∨ 64 < X.length then 2 else if (X.all fun x => decide (1 ≤ x ∧ x < P)) && (S.all fun s => decide (0 ≤ s ∧ s < P)) then (if X.Nodup then 0 else 81) else 1

theorem seenM_snoc (D : List Int) (x : Int) : seenM D ++ [(V.int .i64 x, V.bool true)] = seenM (D ++ [x]) := by simp [seenM]

set_option maxRecDepth 10000 in
theorem k46a {R P G : Int} (h : GroupI R P G) (X S : List Int) (hX : X.length < 2 ^ 40) (hS : S.length < 2 ^ 40) (hl : ¬ X.length = S.length) : PureC Tryz.prog 46 [grp R P G, .sl (X.map (V.int .i64)) X.length, .sl (S.map (V.int .i64)) S.length] (fun r => r = .int .i64 7) := by
  have c1 := k43 h
  clear h
  refine pureC_of_wp .x mixed ok46 rfl ?_
  unfold c46
  dsimp only [argE]
  refine W.run ?_
  rfl
theorem nodup_snoc {X : List Int} {x : Int} : (X ++ [x]).Nodup ↔ X.Nodup ∧ x ∉ X := by
  rw [List.nodup_append]
  constructor
  · rintro ⟨h1, _, h3⟩
    exact ⟨h1, fun h => h3 x h x (by simp) rfl⟩
  · rintro ⟨h1, h2⟩
    exact ⟨h1, by simp, fun a ha b hb e => by simp at hb; subst hb; subst e; exact h2 ha⟩

set_option maxRecDepth 10000 in
set_option maxHeartbeats 1000000 in
theorem k46b {R P G : Int} (h : GroupI R P G) (X S : List Int) (hX : X.length < 2 ^ 40) (hl : S.length = X.length) : PureC Tryz.prog 46 [grp R P G, .sl (X.map (V.int .i64)) X.length, .sl (S.map (V.int .i64)) X.length] (fun r => r = .int .i64 (chkE P X S)) := by
  have hP := h.hP
  have c1 := k43 h
  have c2 := k48 X S X.length X.length
  have hit := it77 X S hX hl
  clear h
  obtain ⟨E, hE⟩ : ∃ E, E = chkE P X S := ⟨_, rfl⟩
  rw [← hE]
  unfold chkE at hE
  rw [if_neg (by simp [hl])] at hE
  refine pureC_of_wp .x mixed ok46 rfl ?_
  unfold c46
  dsimp only [argE]
  by_cases h1 : X.length < 1
  · rw [if_pos (.inl h1)] at hE
    subst hE
    refine W.run ?_
    rfl
  by_cases h2 : 64 < X.length
  · rw [if_pos (.inr h2)] at hE
    subst hE
    refine W.run ?_
    rfl
  rw [if_neg (by omega)] at hE
  refine W.run ?_
  refine W.rfi hit YEx.none rfl (fun vs hvs => ?_) (fun z : Bool × List Int => ((((Hp.put (fun _ => none) 0 { cells := [.int .i64 R, .int .i64 P, .int .i64 G], sz := 3 }).put 8 { cells := [.int .i64 0], sz := 1 }).put 160 { cells := [], sz := 0, sp := 2, mp := seenM z.2 }).put 168 { cells := [.mp 160], sz := 1 }).put 184 { cells := [.bool z.1], sz := 1 })
    (fun i z => (∀ x, x ∈ z.2 ↔ x ∈ X.take i) ∧ (z.1 = false ↔ (X.take i).Nodup) ∧ (∀ x ∈ X.take i, 1 ≤ x ∧ x < P) ∧ (∀ x ∈ S.take i, 0 ≤ x ∧ x < P)) (false, []) (HS.refl _) ?_ ?_ ?_ ?_
  · obtain ⟨i, hi, rfl⟩ := List.getElem_of_mem hvs
    simp [ptsV]
  · simp
  · intro i z _
    simp [Hp.put]
  · rintro i vs ⟨b, D⟩ n hi ⟨hD, hb, hx, hs⟩ hn
    obtain ⟨hi1, -⟩ := List.getElem?_eq_some_iff.1 hi
    rw [ptsV_len hl.symm] at hi1
    rw [ptsV_get hi1 (by omega), Option.some.injEq] at hi
    subst hi
    dsimp only [putL] at hD hb ⊢
    have c3 := k65s 1 (P - 1) X[i]
    have c4 := k66s (R := R) (G := G) hP (S[i]'(by omega))
    have hxm : X[i] ∈ X := List.getElem_mem _
    have hsm : S[i]'(by omega) ∈ S := List.getElem_mem _
    have hbad : ¬ ((1 ≤ X[i] ∧ X[i] < P) ∧ (0 ≤ S[i]'(by omega) ∧ S[i]'(by omega) < P)) → E = 1 := fun hn => by
      rw [hE, if_neg]
      rw [Bool.and_eq_true, List.all_eq_true, List.all_eq_true]
      rintro ⟨a, b⟩
      exact hn ⟨of_decide_eq_true (a _ hxm), of_decide_eq_true (b _ hsm)⟩
    clear hE
    by_cases hgx : 1 ≤ X[i] ∧ X[i] < P
    case neg =>
      obtain rfl := hbad (fun h => hgx h.1)
      rw [decide_eq_false (by omega)] at c3
      refine W.run ?_
      refine W.kasg ?_
      refine W.run ?_
      refine W.kitrR _ (HS.skip (HS.refl _) (by simp only [Hp.put]; repeat (rw [if_neg (by omega)])) _) (by simp [Hp.put]) fun m hm => ?_
      refine W.run ?_
      rfl
    rw [decide_eq_true (by omega)] at c3
    by_cases hgs : 0 ≤ S[i]'(by omega) ∧ S[i]'(by omega) < P
    case neg =>
      obtain rfl := hbad (fun h => hgs h.2)
      rw [decide_eq_false hgs] at c4
      refine W.run ?_
      refine W.kasg ?_
      refine W.run ?_
      refine W.kitrR _ (HS.skip (HS.skip (HS.refl _) (by simp only [Hp.put]; repeat (rw [if_neg (by omega)])) _) (by simp only [Hp.put]; repeat (rw [if_neg (by omega)])) _) (by simp [Hp.put]) fun m hm => ?_
      refine W.run ?_
      rfl
    rw [decide_eq_true hgs] at c4
    have hx' : ∀ x ∈ X.take (i + 1), 1 ≤ x ∧ x < P := fun x hx2 => by
      rw [← List.take_append_getElem hi1, List.mem_append, List.mem_singleton] at hx2
      rcases hx2 with h | rfl
      · exact hx x h
      · exact hgx
    have hs' : ∀ x ∈ S.take (i + 1), 0 ≤ x ∧ x < P := fun x hx2 => by
      rw [← List.take_append_getElem (by omega : i < S.length), List.mem_append, List.mem_singleton] at hx2
      rcases hx2 with h | rfl
      · exact hs x h
      · exact hgs
    have hnd : (X.take (i + 1)).Nodup ↔ (X.take i).Nodup ∧ X[i] ∉ X.take i := by
      rw [← List.take_append_getElem hi1, nodup_snoc]
    have hmem : ∀ x, x ∈ X.take (i + 1) ↔ x ∈ X.take i ∨ x = X[i] := fun x => by
      rw [← List.take_append_getElem hi1, List.mem_append, List.mem_singleton]
    clear hbad hx hs
    by_cases hin : X[i] ∈ D
    · cases b
      · refine W.run ?_
        refine W.kasg ?_
        refine W.run ?_
        refine W.kitr (true, D) (HS.skip (HS.skip (HS.refl _) (by simp only [Hp.put]; repeat (rw [if_neg (by omega)])) _) (by simp only [Hp.put]; repeat (rw [if_neg (by omega)])) _) ⟨fun x => ?_, ?_, hx', hs'⟩ (by omega)
        · rw [hmem]; dsimp only; rw [hD]; exact ⟨.inl, fun h => h.elim id (fun h => by rw [h, ← hD]; exact hin)⟩
        · rw [hnd]; simp [← hD, hin]
      · refine W.run ?_
        refine W.kasg ?_
        refine W.run ?_
        refine W.kitr (true, D) (HS.skip (HS.skip (HS.refl _) (by simp only [Hp.put]; repeat (rw [if_neg (by omega)])) _) (by simp only [Hp.put]; repeat (rw [if_neg (by omega)])) _) ⟨fun x => ?_, ?_, hx', hs'⟩ (by omega)
        · rw [hmem]; dsimp only; rw [hD]; exact ⟨.inl, fun h => h.elim id (fun h => by rw [h, ← hD]; exact hin)⟩
        · rw [hnd]; simp [← hD, hin]
    · cases b
      · refine W.run ?_
        refine W.kasg ?_
        refine W.run ?_
        rw [seenM_snoc]
        refine W.kitr (false, D ++ [X[i]]) (HS.skip (HS.skip (HS.refl _) (by simp only [Hp.put]; repeat (rw [if_neg (by omega)])) _) (by simp only [Hp.put]; repeat (rw [if_neg (by omega)])) _) ⟨fun x => ?_, ?_, hx', hs'⟩ (by omega)
        · rw [hmem, ← hD]; simp
        · rw [hnd, ← hb, ← hD]; simp [hin]
      · refine W.run ?_
        refine W.kasg ?_
        refine W.run ?_
        rw [seenM_snoc]
        refine W.kitr (true, D ++ [X[i]]) (HS.skip (HS.skip (HS.refl _) (by simp only [Hp.put]; repeat (rw [if_neg (by omega)])) _) (by simp only [Hp.put]; repeat (rw [if_neg (by omega)])) _) ⟨fun x => ?_, ?_, hx', hs'⟩ (by omega)
        · rw [hmem, ← hD]; simp
        · rw [hnd, ← hb]; simp
  · rintro ⟨b, D⟩ n ⟨hD, hb, hx, hs⟩ hn
    dsimp only at hD hb ⊢
    rw [ptsV_len hl.symm, List.take_length] at hD hb hx
    rw [ptsV_len hl.symm, ← hl, List.take_length] at hs
    have hall : ((X.all fun x => decide (1 ≤ x ∧ x < P)) && (S.all fun s => decide (0 ≤ s ∧ s < P))) = true := by
      rw [Bool.and_eq_true, List.all_eq_true, List.all_eq_true]
      exact ⟨fun x hx' => decide_eq_true (hx x hx'), fun x hx' => decide_eq_true (hs x hx')⟩
    rw [if_pos hall] at hE
    cases b
    · rw [if_pos (hb.1 rfl)] at hE
      subst hE
      refine W.run ?_
      rfl
    · rw [if_neg (fun h => by have := hb.2 h; cases this)] at hE
      subst hE
      refine W.run ?_
      rfl
theorem k46 {R P G : Int} (h : GroupI R P G) (X S : List Int) (hX : X.length < 2 ^ 40) (hS : S.length < 2 ^ 40) : PureC Tryz.prog 46 [grp R P G, .sl (X.map (V.int .i64)) X.length, .sl (S.map (V.int .i64)) S.length] (fun r => r = .int .i64 (chkE P X S)) := by
  by_cases hl : X.length = S.length
  · have := k46b h X S hX hl.symm
    rwa [← hl]
  · have e : chkE P X S = 7 := by unfold chkE; rw [if_pos hl]
    rw [e]; exact k46a h X S hX hS hl
end Go.Dp

namespace Go.Dp
open Go.RowKit Go.Proofs
attribute [local irreducible] wp wpOps wpOp1 CallW CallT kSeq kBlk kLoop kReg retP retR kAsg kRound kRf kCut kItr
set_option linter.unusedVariables false
set_option linter.unusedSimpArgs false

set_option maxRecDepth 10000 in
theorem k50 (m a b : Int) (hm : 0 < m ∧ m < 2 ^ 31) (ha : 0 ≤ a ∧ a < m) (hb : 0 ≤ b ∧ b < m) : PureC Tryz.prog 50 [.int .i64 m, .int .i64 a, .int .i64 b] (fun r => r = .int .i64 ((a - b + m) % m)) := by
  refine pureC_of_wp .x mixed ok50 rfl ?_
  unfold c50
  dsimp only [argE]
  refine W.run ?_
  rfl
set_option maxRecDepth 10000 in
theorem k52 (m a : Int) (hm : 2 < m ∧ m < 2 ^ 31) (ha : 0 ≤ a) : PureC Tryz.prog 52 [.int .i64 m, .int .i64 a] (fun r => r = .int .i64 (a ^ (m - 2).toNat % m)) := by
  have c := k68 a (m - 2) m ha (by omega) (by omega) (by omega) (by omega)
  refine pureC_of_wp .x mixed ok52 rfl ?_
  unfold c52
  dsimp only [argE]
  refine W.run ?_
  rfl

/-- the products that Recover takes -/
def topM (P x : Int) : Int → List Int → Int
  | t, [] => t
  | t, y :: l => topM P x (if y = x then t else t * y % P) l
def botM (P x : Int) : Int → List Int → Int
  | b, [] => b
  | b, y :: l => botM P x (if y = x then b else b * ((y - x + P) % P) % P) l
/-- what Recover adds up -/
def recL (P : Int) (X : List Int) : Int → List Int → List Int → Int
  | acc, x :: l, s :: m => recL P X ((acc + topM P x s X * (botM P x 1 X ^ (P - 2).toNat % P) % P) % P) l m
  | acc, _, _ => acc
theorem topM_rng {P x : Int} (hP : 0 < P) : ∀ (l : List Int) (t : Int), 0 ≤ t ∧ t < P → 0 ≤ topM P x t l ∧ topM P x t l < P
  | [], t, h => h
  | y :: l, t, h => topM_rng hP l _ (by split; exact h; exact ⟨Int.emod_nonneg _ (by omega), Int.emod_lt_of_pos _ hP⟩)
theorem botM_rng {P x : Int} (hP : 0 < P) : ∀ (l : List Int) (t : Int), 0 ≤ t ∧ t < P → 0 ≤ botM P x t l ∧ botM P x t l < P
  | [], t, h => h
  | y :: l, t, h => botM_rng hP l _ (by split; exact h; exact ⟨Int.emod_nonneg _ (by omega), Int.emod_lt_of_pos _ hP⟩)
theorem recL_rng {P : Int} (hP : 0 < P) (X : List Int) : ∀ (l m : List Int) (acc : Int), 0 ≤ acc ∧ acc < P → 0 ≤ recL P X acc l m ∧ recL P X acc l m < P
  | [], _, _, h => h
  | _ :: _, [], _, h => h
  | x :: l, s :: m, acc, h => recL_rng hP X l m _ ⟨Int.emod_nonneg _ (by omega), Int.emod_lt_of_pos _ hP⟩
theorem topM_eq {P x : Int} : ∀ (l : List Int) (t : Int), topM P x t l % P = t * prodAt 0 (others x l) % P
  | [], t => by simp [topM, others, prodAt]
  | y :: l, t => by
    show topM P x (if y = x then t else t * y % P) l % P = _
    rw [topM_eq l]
    by_cases h : y = x
    · rw [if_pos h]; simp [others, h]
    · rw [if_neg h]
      have : others x (y :: l) = y :: others x l := by simp [others, h]
      rw [this, prodAt, Int.sub_zero, Int.mul_emod, Int.emod_emod, ← Int.mul_emod, Int.mul_assoc]
theorem botM_eq {P x : Int} : ∀ (l : List Int) (t : Int), botM P x t l % P = t * prodAt x (others x l) % P
  | [], t => by simp [botM, others, prodAt]
  | y :: l, t => by
    show botM P x (if y = x then t else t * ((y - x + P) % P) % P) l % P = _
    rw [botM_eq l]
    by_cases h : y = x
    · rw [if_pos h]; simp [others, h]
    · rw [if_neg h]
      have : others x (y :: l) = y :: others x l := by simp [others, h]
      have e2 : (y - x + P) % P = (y - x) % P := by rw [Int.add_emod, Int.emod_self, Int.add_zero, Int.emod_emod]
      rw [this, prodAt, Int.mul_emod, Int.emod_emod, ← Int.mul_emod, e2, ← Int.mul_assoc]
      rw [Int.mul_emod (t * ((y - x) % P)), Int.mul_emod t, Int.emod_emod, ← Int.mul_emod t, ← Int.mul_emod]
theorem recL_lag {P : Int} (hP : 3 ≤ P) {X : List Int} {f : Int → Int} : ∀ (l m : List Int) (acc : Int), (0 ≤ acc ∧ acc < P) → m = l.map f → recL P X acc l m = (acc + lagI P X f 0 l) % P
  | [], _, acc, h, e => by subst e; show acc = _; rw [lagI, Int.add_zero, Int.emod_eq_of_lt h.1 h.2]
  | x :: l, m, acc, h, e => by
    subst e
    show recL P X ((acc + topM P x (f x) X * (botM P x 1 X ^ (P - 2).toNat % P) % P) % P) l (l.map f) = _
    rw [recL_lag hP l _ _ ⟨Int.emod_nonneg _ (by omega), Int.emod_lt_of_pos _ (by omega)⟩ rfl, Int.emod_add_emod]
    have e1 : botM P x 1 X ^ (P - 2).toNat % P = prodAt x (others x X) ^ (P - 2).toNat % P := by
      rw [← pow_emod (botM P x 1 X), botM_eq, Int.one_mul, pow_emod]
    have e2 : topM P x (f x) X * (botM P x 1 X ^ (P - 2).toNat % P) % P = f x * (prodAt x (others x X) ^ (P - 2).toNat % P) * prodAt 0 (others x X) % P := by
      rw [e1, Int.mul_emod, topM_eq, ← Int.mul_emod]
      congr 1
      rw [Int.mul_assoc, Int.mul_assoc, Int.mul_comm (prodAt 0 _)]
    rw [e2]
    show _ = (acc + (f x * (prodAt x (others x X) ^ (P - 2).toNat % P) * prodAt 0 (others x X) + lagI P X f 0 l)) % P
    rw [← Int.add_assoc, Int.add_emod (acc + _ % P), Int.add_emod acc, Int.emod_emod, ← Int.add_emod acc, ← Int.add_emod]

set_option maxRecDepth 10000 in
theorem k11e {R P G : Int} (h : GroupI R P G) (X S : List Int) (hX : X.length < 2 ^ 40) (hS : S.length < 2 ^ 40) (he : chkE P X S ≠ 0) : PureC Tryz.prog 11 [grp R P G, .sl (X.map (V.int .i64)) X.length, .sl (S.map (V.int .i64)) S.length] (fun r => r = .tup [.int .i64 0, .int .i64 (chkE P X S)]) := by
  have c1 := k46 h X S hX hS
  clear h
  refine pureC_of_wp .x mixed ok11 rfl ?_
  unfold c11
  dsimp only [argE]
  refine W.run ?_
  rfl
theorem chkE_zero {P : Int} {X S : List Int} (h : chkE P X S = 0) : X.length = S.length ∧ (1 ≤ X.length ∧ X.length ≤ 64) ∧ (∀ x ∈ X, 1 ≤ x ∧ x < P) ∧ (∀ s ∈ S, 0 ≤ s ∧ s < P) ∧ X.Nodup := by
  unfold chkE at h
  split at h
  · omega
  split at h
  · omega
  split at h
  · rename_i h1 h2 h3
    rw [Bool.and_eq_true, List.all_eq_true, List.all_eq_true] at h3
    split at h
    · rename_i h4
      exact ⟨by omega, by omega, fun x hx => of_decide_eq_true (h3.1 x hx), fun x hx => of_decide_eq_true (h3.2 x hx), h4⟩
    · omega
  · omega
theorem recL_step {P : Int} {X l m : List Int} {acc : Int} : True := trivial

set_option maxRecDepth 10000 in
set_option maxHeartbeats 1000000 in
theorem k11 {R P G : Int} (h : GroupI R P G) (X S : List Int) (hl : S.length = X.length) (he : chkE P X S = 0) : PureC Tryz.prog 11 [grp R P G, .sl (X.map (V.int .i64)) X.length, .sl (S.map (V.int .i64)) X.length] (fun r => r = .tup [.int .i64 (recL P X 0 X S), .int .i64 0]) := by
  have hP := h.hP
  obtain ⟨_, hlen, hrX, hrS, hnd⟩ := chkE_zero he
  have c1 := k46b h X S (by omega) hl
  rw [he] at c1
  have c2 := k48 X S X.length X.length
  have hit := it77 X S (by omega) hl
  have c3 := k47 R P G
  clear h
  refine pureC_of_wp .x mixed ok11 rfl ?_
  unfold c11
  dsimp only [argE]
  refine W.run ?_
  clear c1 c2
  refine W.rfi hit YEx.none rfl (fun vs hvs => ?_) (fun z : Int => (((Hp.put (fun _ => none) 0 { cells := [.int .i64 R, .int .i64 P, .int .i64 G], sz := 3 }).put 8 { cells := [.sl (X.map (V.int .i64)) X.length], sz := 1 }).put 104 { cells := [.int .i64 P], sz := 1 }).put 120 { cells := [.int .i64 z], sz := 1 })
    (fun i z => (0 ≤ z ∧ z < P) ∧ recL P X 0 X S = recL P X z (X.drop i) (S.drop i)) 0 (HS.refl _) ⟨by omega, rfl⟩ ?_ ?_ ?_
  · obtain ⟨i, hi, rfl⟩ := List.getElem_of_mem hvs
    simp [ptsV]
  · intro i z _
    simp [Hp.put]
  · rintro i vs acc n hi ⟨hacc, hrec⟩ hn
    obtain ⟨hi1, -⟩ := List.getElem?_eq_some_iff.1 hi
    rw [ptsV_len hl.symm] at hi1
    rw [ptsV_get hi1 (by omega), Option.some.injEq] at hi
    subst hi
    dsimp only [putL]
    have hx := hrX X[i] (List.getElem_mem _)
    have hs := hrS (S[i]'(by omega)) (List.getElem_mem _)
    rw [List.drop_eq_getElem_cons hi1, List.drop_eq_getElem_cons (by omega : i < S.length)] at hrec
    refine W.run ?_
    refine W.kasg ?_
    refine W.run ?_
    refine W.lp (fun y : Nat × Int × Int => [(9, .ptr 104 0 0), (10, .ptr 120 0 0), (11, .int .i64 X[i]), (13, .int .i64 y.2.1), (14, .int .i64 y.2.2), (32, .sl (X.map (V.int .i64)) X.length), (33, .int .i64 (X.length : Int)), (34, .int .i64 (y.1 : Int))]) (fun _ => ((((Hp.put (fun _ => none) 0 { cells := [.int .i64 R, .int .i64 P, .int .i64 G], sz := 3 }).put 8 { cells := [.sl (X.map (V.int .i64)) X.length], sz := 1 }).put 104 { cells := [.int .i64 P], sz := 1 }).put 120 { cells := [.int .i64 acc], sz := 1 }).put 160 (recO 1))
      (fun y => y.1 ≤ X.length ∧ (0 ≤ y.2.1 ∧ y.2.1 < P) ∧ (0 ≤ y.2.2 ∧ y.2.2 < P) ∧ topM P X[i] (S[i]'(by omega)) X = topM P X[i] y.2.1 (X.drop y.1) ∧ botM P X[i] 1 X = botM P X[i] y.2.2 (X.drop y.1)) (fun y => X.length - y.1) (0, S[i]'(by omega), 1) rfl (HS.refl _) ⟨by dsimp only; omega, hs, by dsimp only; omega, rfl, rfl⟩ ?_
    rintro ⟨j, t, b⟩ n2 ⟨hj, ht, hb, htop, hbot⟩ hn2
    dsimp only at hj ht hb htop hbot ⊢
    by_cases hlt : j < X.length
    · have hy := hrX X[j] (List.getElem_mem _)
      rw [List.drop_eq_getElem_cons hlt] at htop hbot
      by_cases hxy : X[j] = X[i]
      · simp only [topM, botM, if_pos hxy] at htop hbot
        refine W.run ?_
        exact W.kl (j + 1, t, b) rfl (HS.refl _) (by omega) ⟨by dsimp only; omega, ht, hb, htop, hbot⟩ (by dsimp only; omega)
      · simp only [topM, botM, if_neg hxy] at htop hbot
        have p1 := mul_small ht.1 (by omega : 0 ≤ X[j]) ht.2 hy.2 (by omega)
        have e1 : 0 ≤ (X[j] - X[i] + P) % P ∧ (X[j] - X[i] + P) % P < P := ⟨Int.emod_nonneg _ (by omega), Int.emod_lt_of_pos _ (by omega)⟩
        have p2 := mul_small hb.1 e1.1 hb.2 e1.2 (by omega)
        have d1 := k49 P t X[j] (by omega) p1.1 p1.2
        have d2 := k50 P X[j] X[i] (by omega) (by omega) (by omega)
        have d3 := k49 P b ((X[j] - X[i] + P) % P) (by omega) p2.1 p2.2
        refine W.run ?_
        exact W.kl (j + 1, _, _) rfl (HS.refl _) (by omega) ⟨by dsimp only; omega, ⟨Int.emod_nonneg _ (by omega), Int.emod_lt_of_pos _ (by omega)⟩, ⟨Int.emod_nonneg _ (by omega), Int.emod_lt_of_pos _ (by omega)⟩, htop, hbot⟩ (by dsimp only; omega)
    · have : j = X.length := by omega
      subst this
      rw [List.drop_length] at htop hbot
      have htop' : topM P X[i] (S[i]'(by omega)) X = t := htop
      have hbot' : botM P X[i] 1 X = b := hbot
      have e1 : 0 ≤ b ^ (P - 2).toNat % P ∧ b ^ (P - 2).toNat % P < P := ⟨Int.emod_nonneg _ (by omega), Int.emod_lt_of_pos _ (by omega)⟩
      have p1 := mul_small ht.1 e1.1 ht.2 e1.2 (by omega)
      have e2 : 0 ≤ t * (b ^ (P - 2).toNat % P) % P ∧ t * (b ^ (P - 2).toNat % P) % P < P := ⟨Int.emod_nonneg _ (by omega), Int.emod_lt_of_pos _ (by omega)⟩
      have d1 := k52 P b (by omega) hb.1
      have d2 := k49 P t (b ^ (P - 2).toNat % P) (by omega) p1.1 p1.2
      have d3 := k51 P acc (t * (b ^ (P - 2).toNat % P) % P) (by omega) (by omega) (by omega)
      refine W.run ?_
      refine W.kitr _ (HS.refl _) ⟨⟨Int.emod_nonneg _ (by omega), Int.emod_lt_of_pos _ (by omega)⟩, ?_⟩ (by omega)
      rw [hrec]
      simp only [recL]
      rw [htop', hbot']
  · rintro acc n ⟨hacc, hrec⟩ hn
    rw [ptsV_len hl.symm, List.drop_length] at hrec
    have : recL P X 0 X S = acc := by rw [hrec, ← hl, List.drop_length]; rfl
    rw [this]
    refine W.run ?_
    rfl
end Go.Dp
