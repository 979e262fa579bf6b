import Derived.Test.YtkadcajmlkmhjabGreatDqR2
namespace Go.Dp
open Go.RowKit Go.Proofs
attribute [local irreducible] wp wpOps wpOp1 CallW CallT kSeq kBlk kLoop kReg retP retR kAsg kRound kRf kCut kItr
set_option linter.unusedVariables false
set_option linter.unusedSimpArgs false

set_option maxRecDepth 10000 in
theorem k50 (m a b : Int) (hm : 0 < m ∧ m < 2 ^ 31) (ha : 0 ≤ a ∧ a < m) (hb : 0 ≤ b ∧ b < m) : PureC Tryz.prog 50 [.int .i64 m, .int .i64 a, .int .i64 b] (fun r => r = .int .i64 ((a - b + m) % m)) := by
  refine pureC_of_wp .x mixed ok50 rfl ?_
  unfold c50
  dsimp only [argE]
  refine W.run ?_
  rfl
set_option maxRecDepth 10000 in
theorem k52 (m a : Int) (hm : 2 < m ∧ m < 2 ^ 31) (ha : 0 ≤ a) : PureC Tryz.prog 52 [.int .i64 m, .int .i64 a] (fun r => r = .int .i64 (a ^ (m - 2).toNat % m)) := by
  have c := k68 a (m - 2) m ha (by omega) (by omega) (by omega) (by omega)
  refine pureC_of_wp .x mixed ok52 rfl ?_
  unfold c52
  dsimp only [argE]
  refine W.run ?_
  rfl

/-- the products that Recover takes -/
def topM (P x : Int) : Int → List Int → Int
  | t, [] => t
  | t, y :: l => topM P x (if y = x then t else t * y % P) l
def botM (P x : Int) : Int → List Int → Int
  | b, [] => b
  | b, y :: l => botM P x (if y = x then b else b * ((y - x + P) % P) % P) l
/-- what Recover adds up -/
def recL (P : Int) (X : List Int) : Int → List Int → List Int → Int
  | acc, x :: l, s :: m => recL P X ((acc + topM P x s X * (botM P x 1 X ^ (P - 2).toNat % P) % P) % P) l m
  | acc, _, _ => acc
theorem topM_rng {P x : Int} (hP : 0 < P) : ∀ (l : List Int) (t : Int), 0 ≤ t ∧ t < P → 0 ≤ topM P x t l ∧ topM P x t l < P
  | [], t, h => h
  | y :: l, t, h => topM_rng hP l _ (by split; exact h; exact ⟨Int.emod_nonneg _ (by omega), Int.emod_lt_of_pos _ hP⟩)
theorem botM_rng {P x : Int} (hP : 0 < P) : ∀ (l : List Int) (t : Int), 0 ≤ t ∧ t < P → 0 ≤ botM P x t l ∧ botM P x t l < P
  | [], t, h => h
  | y :: l, t, h => botM_rng hP l _ (by split; exact h; exact ⟨Int.emod_nonneg _ (by omega), Int.emod_lt_of_pos _ hP⟩)
theorem recL_rng {P : Int} (hP : 0 < P) (X : List Int) : ∀ (l m : List Int) (acc : Int), 0 ≤ acc ∧ acc < P → 0 ≤ recL P X acc l m ∧ recL P X acc l m < P
  | [], _, _, h => h
  | _ :: _, [], _, h => h
  | x :: l, s :: m, acc, h => recL_rng hP X l m _ ⟨Int.emod_nonneg _ (by omega), Int.emod_lt_of_pos _ hP⟩
theorem topM_eq {P x : Int} : ∀ (l : List Int) (t : Int), topM P x t l % P = t * prodAt 0 (others x l) % P
  | [], t => by simp [topM, others, prodAt]
  | y :: l, t => by
    show topM P x (if y = x then t else t * y % P) l % P = _
    rw [topM_eq l]
    by_cases h : y = x
    · rw [if_pos h]; simp [others, h]
    · rw [if_neg h]
      have : others x (y :: l) = y :: others x l := by simp [others, h]
      rw [this, prodAt, Int.sub_zero, Int.mul_emod, Int.emod_emod, ← Int.mul_emod, Int.mul_assoc]
theorem botM_eq {P x : Int} : ∀ (l : List Int) (t : Int), botM P x t l % P = t * prodAt x (others x l) % P
  | [], t => by simp [botM, others, prodAt]
  | y :: l, t => by
    show botM P x (if y = x then t else t * ((y - x + P) % P) % P) l % P = _
    rw [botM_eq l]
    by_cases h : y = x
    · rw [if_pos h]; simp [others, h]
    · rw [if_neg h]
      have : others x (y :: l) = y :: others x l := by simp [others, h]
      have e2 : (y - x + P) % P = (y - x) % P := by rw [Int.add_emod, Int.emod_self, Int.add_zero, Int.emod_emod]
      rw [this, prodAt, Int.mul_emod, Int.emod_emod, ← Int.mul_emod, e2, ← Int.mul_assoc]
      rw [Int.mul_emod (t * ((y - x) % P)), Int.mul_emod t, Int.emod_emod, ← Int.mul_emod t, ← Int.mul_emod]
theorem recL_lag {P : Int} (hP : 3 ≤ P) {X : List Int} {f : Int → Int} : ∀ (l m : List Int) (acc : Int), (0 ≤ acc ∧ acc < P) → m = l.map f → recL P X acc l m = (acc + lagI P X f 0 l) % P
  | [], _, acc, h, e => by subst e; show acc = _; rw [lagI, Int.add_zero, Int.emod_eq_of_lt h.1 h.2]
  | x :: l, m, acc, h, e => by
    subst e
    show recL P X ((acc + topM P x (f x) X * (botM P x 1 X ^ (P - 2).toNat % P) % P) % P) l (l.map f) = _
    rw [recL_lag hP l _ _ ⟨Int.emod_nonneg _ (by omega), Int.emod_lt_of_pos _ (by omega)⟩ rfl, Int.emod_add_emod]
    have e1 : botM P x 1 X ^ (P - 2).toNat % P = prodAt x (others x X) ^ (P - 2).toNat % P := by
      rw [← pow_emod (botM P x 1 X), botM_eq, Int.one_mul, pow_emod]
    have e2 : topM P x (f x) X * (botM P x 1 X ^ (P - 2).toNat % P) % P = f x * (prodAt x (others x X) ^ (P - 2).toNat % P) * prodAt 0 (others x X) % P := by
      rw [e1, Int.mul_emod, topM_eq, ← Int.mul_emod]
      congr 1
      rw [Int.mul_assoc, Int.mul_assoc, Int.mul_comm (prodAt 0 _)]
    rw [e2]
    show _ = (acc + (f x * (prodAt x (others x X) ^ (P - 2).toNat % P) * prodAt 0 (others x X) + lagI P X f 0 l)) % P
    rw [← Int.add_assoc, Int.add_emod (acc + _ % P), Int.add_emod acc, Int.emod_emod, ← Int.add_emod acc, ← Int.add_emod]

set_option maxRecDepth 10000 in
theorem k11e {R P G : Int} (h : GroupI R P G) (X S : List Int) (hX : X.length < 2 ^ 40) (hS : S.length < 2 ^ 40) (he : chkE P X S ≠ 0) : PureC Tryz.prog 11 [grp R P G, .sl (X.map (V.int .i64)) X.length, .sl (S.map (V.int .i64)) S.length] (fun r => r = .tup [.int .i64 0, .int .i64 (chkE P X S)]) := by
  have c1 := k46 h X S hX hS
  clear h
  refine pureC_of_wp .x mixed ok11 rfl ?_
  unfold c11
  dsimp only [argE]
  refine W.run ?_
  rfl
theorem chkE_zero {P : Int} {X S : List Int} (h : chkE P X S = 0) : X.length = S.length ∧ (1 ≤ X.length ∧ X.length ≤ 64) ∧ (∀ x ∈ X, 1 ≤ x ∧ x < P) ∧ (∀ s ∈ S, 0 ≤ s ∧ s < P) ∧ X.Nodup := by
  unfold chkE at h
  split at h
  · omega
  split at h
  · omega
  split at h
  · rename_i h1 h2 h3
    rw [Bool.and_eq_true, List.all_eq_true, List.all_eq_true] at h3
    split at h
    · rename_i h4
      exact ⟨by omega, by omega, fun x hx => of_decide_eq_true (h3.1 x hx), fun x hx => of_decide_eq_true (h3.2 x hx), h4⟩
    · omega
  · omega
theorem recL_step {P : Int} {X l m : List Int} {acc : Int} : True := trivial

set_option maxRecDepth 10000 in
set_option maxHeartbeats 1000000 in
theorem k11 {R P G : Int} (h : GroupI R P G) (X S : List Int) (hl : S.length = X.length) (he : chkE P X S = 0) : PureC Tryz.prog 11 [grp R P G, .sl (X.map (V.int .i64)) X.length, .sl (S.map (V.int .i64)) X.length] (fun r => r = .tup [.int .i64 (recL P X 0 X S), .int .i64 0]) := by
  have hP := h.hP
  obtain ⟨_, hlen, hrX, hrS, hnd⟩ := chkE_zero he
  have c1 := k46b h X S (by omega) hl
  rw [he] at c1
  have c2 := k48 X S X.length X.length
  have hit := it77 X S (by omega) hl
  have c3 := k47 R P G
  clear h
  refine pureC_of_wp .x mixed ok11 rfl ?_
  unfold c11
  dsimp only [argE]
  refine W.run ?_
  clear c1 c2
  refine W.rfi hit YEx.none rfl (fun vs hvs => ?_) (fun z : Int => (((Hp.put (fun _ => none) 0 { cells := [.int .i64 R, .int .i64 P, .int .i64 G], sz := 3 }).put 8 { cells := [.sl (X.map (V.int .i64)) X.length], sz := 1 }).put 104 { cells := [.int .i64 P], sz := 1 }).put 120 { cells := [.int .i64 z], sz := 1 })
    (fun i z => (0 ≤ z ∧ z < P) ∧ recL P X 0 X S = recL P X z (X.drop i) (S.drop i)) 0 (HS.refl _) ⟨by omega, rfl⟩ ?_ ?_ ?_
  · obtain ⟨i, hi, rfl⟩ := List.getElem_of_mem hvs
    simp [ptsV]
  · intro i z _
    simp [Hp.put]
  · rintro i vs acc n hi ⟨hacc, hrec⟩ hn
    obtain ⟨hi1, -⟩ := List.getElem?_eq_some_iff.1 hi
    rw [ptsV_len hl.symm] at hi1
    rw [ptsV_get hi1 (by omega), Option.some.injEq] at hi
    subst hi
    dsimp only [putL]
    have hx := hrX X[i] (List.getElem_mem _)
    have hs := hrS (S[i]'(by omega)) (List.getElem_mem _)
    rw [List.drop_eq_getElem_cons hi1, List.drop_eq_getElem_cons (by omega : i < S.length)] at hrec
    refine W.run ?_
    refine W.kasg ?_
    refine W.run ?_
    refine W.lp (fun y : Nat × Int × Int => [(9, .ptr 104 0 0), (10, .ptr 120 0 0), (11, .int .i64 X[i]), (13, .int .i64 y.2.1), (14, .int .i64 y.2.2), (32, .sl (X.map (V.int .i64)) X.length), (33, .int .i64 (X.length : Int)), (34, .int .i64 (y.1 : Int))]) (fun _ => ((((Hp.put (fun _ => none) 0 { cells := [.int .i64 R, .int .i64 P, .int .i64 G], sz := 3 }).put 8 { cells := [.sl (X.map (V.int .i64)) X.length], sz := 1 }).put 104 { cells := [.int .i64 P], sz := 1 }).put 120 { cells := [.int .i64 acc], sz := 1 }).put 160 (recO 1))
      (fun y => y.1 ≤ X.length ∧ (0 ≤ y.2.1 ∧ y.2.1 < P) ∧ (0 ≤ y.2.2 ∧ y.2.2 < P) ∧ topM P X[i] (S[i]'(by omega)) X = topM P X[i] y.2.1 (X.drop y.1) ∧ botM P X[i] 1 X = botM P X[i] y.2.2 (X.drop y.1)) (fun y => X.length - y.1) (0, S[i]'(by omega), 1) rfl (HS.refl _) ⟨by dsimp only; omega, hs, by dsimp only; omega, rfl, rfl⟩ ?_
    rintro ⟨j, t, b⟩ n2 ⟨hj, ht, hb, htop, hbot⟩ hn2
    dsimp only at hj ht hb htop hbot ⊢
    by_cases hlt : j < X.length
    · have hy := hrX X[j] (List.getElem_mem _)
      rw [List.drop_eq_getElem_cons hlt] at htop hbot
      by_cases hxy : X[j] = X[i]
      · simp only [topM, botM, if_pos hxy] at htop hbot
        refine W.run ?_
        exact W.kl (j + 1, t, b) rfl (HS.refl _) (by omega) ⟨by dsimp only; omega, ht, hb, htop, hbot⟩ (by dsimp only; omega)
      · simp only [topM, botM, if_neg hxy] at htop hbot
        have p1 := mul_small ht.1 (by omega : 0 ≤ X[j]) ht.2 hy.2 (by omega)
        have e1 : 0 ≤ (X[j] - X[i] + P) % P ∧ (X[j] - X[i] + P) % P < P := ⟨Int.emod_nonneg _ (by omega), Int.emod_lt_of_pos _ (by omega)⟩
        have p2 := mul_small hb.1 e1.1 hb.2 e1.2 (by omega)
        have d1 := k49 P t X[j] (by omega) p1.1 p1.2
        have d2 := k50 P X[j] X[i] (by omega) (by omega) (by omega)
        have d3 := k49 P b ((X[j] - X[i] + P) % P) (by omega) p2.1 p2.2
        refine W.run ?_
        exact W.kl (j + 1, _, _) rfl (HS.refl _) (by omega) ⟨by dsimp only; omega, ⟨Int.emod_nonneg _ (by omega), Int.emod_lt_of_pos _ (by omega)⟩, ⟨Int.emod_nonneg _ (by omega), Int.emod_lt_of_pos _ (by omega)⟩, htop, hbot⟩ (by dsimp only; omega)
    · have : j = X.length := by omega
      subst this
      rw [List.drop_length] at htop hbot
      have htop' : topM P X[i] (S[i]'(by omega)) X = t := htop
      have hbot' : botM P X[i] 1 X = b := hbot
      have e1 : 0 ≤ b ^ (P - 2).toNat % P ∧ b ^ (P - 2).toNat % P < P := ⟨Int.emod_nonneg _ (by omega), Int.emod_lt_of_pos _ (by omega)⟩
      have p1 := mul_small ht.1 e1.1 ht.2 e1.2 (by omega)
      have e2 : 0 ≤ t * (b ^ (P - 2).toNat % P) % P ∧ t * (b ^ (P - 2).toNat % P) % P < P := ⟨Int.emod_nonneg _ (by omega), Int.emod_lt_of_pos _ (by omega)⟩
      have d1 := k52 P b (by omega) hb.1
      have d2 := k49 P t (b ^ (P - 2).toNat % P) (by omega) p1.1 p1.2
      have d3 := k51 P acc (t * (b ^ (P - 2).toNat % P) % P) (by omega) (by omega) (by omega)
      refine W.run ?_
      refine W.kitr _ (HS.refl _) ⟨⟨Int.emod_nonneg _ (by omega), Int.emod_lt_of_pos _ (by omega)⟩, ?_⟩ (by omega)
      rw [hrec]
      simp only [recL]
      rw [htop', hbot']
  · rintro acc n ⟨hacc, hrec⟩ hn
    rw [ptsV_len hl.symm, List.drop_length] at hrec
    have : recL P X 0 X S = acc := by rw [hrec, ← hl, List.drop_length]; rfl
    rw [this]
    refine W.run ?_
    rfl
end Go.Dp
