import Derived.Test.YtkadcajmlkmhjabGreatDqE3
import Derived.Test.YtkadcajmlkmhjabGreatDsM10
import Derived.Test.YtkadcajmlkmhjabGreatDqE5
namespace Go.Dp
open Go.RowKit Go.Proofs
attribute [local irreducible] wp wpOps wpOp1 CallW CallT kSeq kBlk kLoop kReg retP retR kAsg kRound kRf kCut kItr
set_option linter.unusedVariables false
set_option linter.unusedSimpArgs false

/-- the reference's field of a prime order -/
abbrev refV (P : Int) : V := .agg [.int .i64 P, .int .i64 P, .int .i64 1, .int .i64 P]
def refO (P : Int) : Ob := { cells := [.int .i64 P, .int .i64 P, .int .i64 1, .int .i64 P], sz := 4 }

set_option maxRecDepth 10000 in
theorem k118 (P a b : Int) (hP : 3 ≤ P ∧ P < 2 ^ 31) (ha : 0 ≤ a ∧ a < P) (hb : 0 ≤ b ∧ b < P) : PureC Tryz.prog 118 [refV P, .int .i64 a, .int .i64 b] (fun r => r = .int .i64 ((a + b) % P)) := by
  refine pureC_of_wp .x mixed ok118 rfl ?_
  unfold c118
  dsimp only [argE, refV]
  refine W.run ?_
  refine W.lp (fun y : Int × Int × Int × Int => [(1, .int .i64 y.1), (2, .int .i64 y.2.1), (3, .ptr 0 0 0), (7, .int .i64 y.2.2.1), (8, .int .i64 y.2.2.2)]) (fun _ => Hp.put (fun _ => none) 0 (refO P))
    (fun y => y = (a, b, 0, 1) ∨ y = (0, 0, (a + b) % P, P)) (fun y => y.1.toNat + y.2.1.toNat) (a, b, 0, 1) rfl (HS.refl _) (.inl rfl) ?_
  have ea : a % P = a := Int.emod_eq_of_lt ha.1 ha.2
  have eb : b % P = b := Int.emod_eq_of_lt hb.1 hb.2
  have da : a / P = 0 := Int.ediv_eq_zero_of_lt ha.1 ha.2
  have db : b / P = 0 := Int.ediv_eq_zero_of_lt hb.1 hb.2
  have hr : 0 ≤ (a % P + b % P) % P ∧ (a % P + b % P) % P < P := emod_rng (by omega)
  rintro y nx (rfl | rfl) hnx
  · dsimp only [refO]
    by_cases h1 : 0 < a
    · refine W.run ?_
      refine W.kl (_, _, _, _) rfl (HS.refl _) (by omega) (.inr ?_) ?_
      · rw [ea, eb, da, db]; simp
      · dsimp only; rw [da, db]; omega
    · by_cases h2 : 0 < b
      · refine W.run ?_
        refine W.kl (_, _, _, _) rfl (HS.refl _) (by omega) (.inr ?_) ?_
        · rw [ea, eb, da, db]; simp
        · dsimp only; rw [da, db]; omega
      · refine W.run ?_
        rw [show a + b = 0 by omega, Int.zero_emod]
  · dsimp only [refO]
    refine W.run ?_
    rfl
set_option maxRecDepth 10000 in
theorem k88 (P a : Int) (hP : 3 ≤ P ∧ P < 2 ^ 31) (ha : 0 ≤ a ∧ a < P) : PureC Tryz.prog 88 [refV P, .int .i64 a] (fun r => r = .int .i64 (negF P a)) := by
  refine pureC_of_wp .x mixed ok88 rfl ?_
  unfold c88
  dsimp only [argE, refV]
  refine W.run ?_
  refine W.lp (fun y : Int × Int × Int => [(1, .int .i64 y.1), (2, .ptr 0 0 0), (5, .int .i64 y.2.1), (6, .int .i64 y.2.2)]) (fun _ => Hp.put (fun _ => none) 0 (refO P))
    (fun y => y = (a, 0, 1) ∨ y = (0, negF P a, P)) (fun y => y.1.toNat) (a, 0, 1) rfl (HS.refl _) (.inl rfl) ?_
  have ea : a % P = a := Int.emod_eq_of_lt ha.1 ha.2
  have da : a / P = 0 := Int.ediv_eq_zero_of_lt ha.1 ha.2
  have hr : 0 ≤ (P - a % P) % P ∧ (P - a % P) % P < P := emod_rng (by omega)
  rintro y nx (rfl | rfl) hnx
  · dsimp only [refO]
    by_cases h1 : 0 < a
    · refine W.run ?_
      refine W.kl (_, _, _) rfl (HS.refl _) (by omega) (.inr ?_) ?_
      · rw [ea, da]; simp [negF]
      · dsimp only; rw [da]; omega
    · refine W.run ?_
      rw [show a = 0 by omega]; simp [negF]
  · dsimp only [refO]
    refine W.run ?_
    rfl
theorem k90 (P a b : Int) (hP : 3 ≤ P ∧ P < 2 ^ 31) (ha : 0 ≤ a ∧ a < P) (hb : 0 ≤ b ∧ b < P) : PureC Tryz.prog 90 [refV P, .int .i64 a, .int .i64 b] (fun r => r = .int .i64 (subF P a b)) := by
  have c1 := k88 P b hP hb
  have hn : 0 ≤ negF P b ∧ negF P b < P := emod_rng (by omega)
  have c2 := k118 P a (negF P b) hP ha hn
  refine pureC_of_wp .x mixed ok90 rfl ?_
  unfold c90 subF
  dsimp only [argE, refV]
  refine W.run ?_
  rfl
theorem k117 (P a b : Int) (hP : 3 ≤ P ∧ P < 2 ^ 31) (ha : 0 ≤ a ∧ a < P) (hb : 0 ≤ b ∧ b < P) : PureC Tryz.prog 117 [refV P, .int .i64 a, .int .i64 b] (fun r => r = .int .i64 (a * b % P)) := by
  have p1 := mul_small ha.1 hb.1 ha.2 hb.2 (by omega)
  refine pureC_of_wp .x mixed ok117 rfl ?_
  unfold c117
  dsimp only [argE, refV]
  refine W.run ?_
  rfl
set_option maxRecDepth 10000 in
theorem k119 (P a n : Int) (hP : 3 ≤ P ∧ P < 2 ^ 31) (ha : 0 ≤ a ∧ a < P) (hn : 0 ≤ n ∧ n < 2 ^ 63) : PureC Tryz.prog 119 [refV P, .int .i64 a, .int .i64 n] (fun r => r = .int .i64 (a ^ n.toNat % P)) := by
  refine pureC_of_wp .x mixed ok119 rfl ?_
  unfold c119
  dsimp only [argE, refV]
  refine W.run ?_
  refine W.lp (fun x : Int × Int × Int => [(1, .int .i64 x.1), (2, .int .i64 x.2.1), (3, .ptr 0 0 0), (7, .int .i64 x.2.2)]) (fun _ => Hp.put (fun _ => none) 0 (refO P))
    (fun x => (0 ≤ x.1 ∧ x.1 < P) ∧ (0 ≤ x.2.2 ∧ x.2.2 < P) ∧ (0 ≤ x.2.1 ∧ x.2.1 < 2^63) ∧ (x.2.2 * x.1 ^ x.2.1.toNat) % P = a ^ n.toNat % P) (fun x => x.2.1.toNat) (a, n, 1) rfl (HS.refl _) ⟨ha, ⟨by dsimp only; omega, by dsimp only; omega⟩, hn, by dsimp only; rw [Int.one_mul]⟩ ?_
  rintro ⟨b', e', r⟩ nx ⟨h1, h2, ⟨h3, h3'⟩, h4⟩ hnx
  dsimp only [refO] at h1 h2 h3 h3' h4 ⊢
  have c1 := k117 P r b' (by omega) h2 h1
  have c2 := k117 P b' b' (by omega) h1 h1
  by_cases hz : 0 < e'
  · by_cases ho : e' % 2 = 1
    · refine W.run ?_
      refine W.kl (b' * b' % P, e' / 2, r * b' % P) rfl (HS.refl _) (by omega) ⟨emod_rng (by omega), emod_rng (by omega), ⟨by dsimp only; omega, by dsimp only; omega⟩, ?_⟩ (by dsimp only; omega)
      dsimp only
      rw [sq_step _ _ _ _ hz ho]; exact h4
    · refine W.run ?_
      refine W.kl (b' * b' % P, e' / 2, r) rfl (HS.refl _) (by omega) ⟨emod_rng (by omega), h2, ⟨by dsimp only; omega, by dsimp only; omega⟩, ?_⟩ (by dsimp only; omega)
      dsimp only
      rw [sq_step0 _ _ _ _ hz ho]; exact h4
  · refine W.run ?_
    have : e' = 0 := by omega
    subst this
    simp only [Int.toNat_zero, Int.pow_zero, Int.mul_one] at h4
    rw [← h4, Int.emod_eq_of_lt h2.1 h2.2]
theorem k89 (P a : Int) (hP : 3 ≤ P ∧ P < 2 ^ 31) (ha : 0 ≤ a ∧ a < P) : PureC Tryz.prog 89 [refV P, .int .i64 a] (fun r => r = .int .i64 (invF P a)) := by
  have c1 := k119 P a (P - 2) hP ha (by omega)
  refine pureC_of_wp .x mixed ok89 rfl ?_
  unfold c89 invF
  dsimp only [argE, refV]
  refine W.run ?_
  rfl
set_option maxRecDepth 10000 in
theorem k57 (P : Int) (hp : PrimeI P) (hP : 3 ≤ P ∧ P ≤ 65521) : PureC Tryz.prog 57 [.int .i64 P] (fun r => r = .tup [refV P, .bool true]) := by
  refine pureC_of_wp (.l [.x, .x]) mixed ok57 rfl ?_
  unfold c57
  dsimp only [argE, refV]
  refine W.run ?_
  refine W.lp (fun d : Int => [(0, .int .i64 P), (2, .ptr 0 0 0), (4, .int .i64 d)]) (fun _ => Hp.put (fun _ => none) 0 { cells := [.int .i64 0, .int .i64 0, .int .i64 0, .int .i64 0], sz := 4 })
    (fun d => 2 ≤ d ∧ d ≤ P) (fun d => (P - d).toNat) 2 rfl (HS.refl _) (by omega) ?_
  rintro d nx hd hnx
  by_cases hdP : P % d = 0
  case neg =>
    have : d ≠ P := fun h => by rw [h, Int.emod_self] at hdP; exact hdP rfl
    refine W.run ?_
    refine W.kl (d + 1) rfl (HS.refl _) (by omega) (by omega) (by omega)
  have hdp : d = P := by
    rcases hp.dvd (Int.dvd_of_emod_eq_zero hdP) (by omega) with h | h
    · omega
    · exact h
  subst hdp
  clear hd
  refine W.run ?_
  refine W.lp (fun y : Int × Int => [(0, .int .i64 d), (2, .ptr 0 0 0), (4, .int .i64 d), (5, .int .i64 y.1), (6, .int .i64 y.2)]) (fun _ => Hp.put (fun _ => none) 0 { cells := [.int .i64 0, .int .i64 0, .int .i64 0, .int .i64 0], sz := 4 })
    (fun y => y = (0, d) ∨ y = (1, 1)) (fun y => y.2.toNat) (0, d) rfl (HS.refl _) (.inl rfl) ?_
  rintro y nx1 (rfl | rfl) hnx1
  · have e1 : d / d = 1 := Int.ediv_self (by omega)
    dsimp only
    refine W.run ?_
    refine W.kl (_, _) rfl (HS.refl _) (by omega) (.inr ?_) ?_
    · rw [e1]
    · dsimp only; rw [e1]; omega
  · dsimp only
    refine W.run ?_
    rfl
end Go.Dp

namespace Go.Dp
open Go.RowKit Go.Proofs
attribute [local irreducible] wp wpOps wpOp1 CallW CallT kSeq kBlk kLoop kReg retP retR kAsg kRound kRf kCut kItr
set_option linter.unusedVariables false
set_option linter.unusedSimpArgs false

/-- a list of numbers, or none -/
def IsL (pv : V) (A : List Int) : Prop := pv = slI A ∨ (pv = .nils ∧ A = [])
theorem IsL.atom {pv : V} {A : List Int} (h : IsL pv A) : pv.atom = true := by rcases h with rfl | ⟨rfl, _⟩ <;> rfl

theorem trim_zero : ∀ l : List Int, trimI (l ++ [0]) = trimI l
  | [] => rfl
  | a :: l => by
    show trimI (a :: (l ++ [0])) = _
    rw [trimI, trim_zero l]; rfl
theorem trim_ne {a : Int} (h : a ≠ 0) : ∀ {l : List Int}, trimI (l ++ [a]) = l ++ [a]
  | [] => by simp [trimI, h]
  | b :: l => by
    show trimI (b :: (l ++ [a])) = _
    rw [trimI, trim_ne h]
    cases l <;> rfl

set_option maxRecDepth 10000 in
theorem k92n : PureC Tryz.prog 92 [.nils] (fun r => r = .nils) := by
  refine pureC_of_wp .x mixed ok92 rfl ?_
  unfold c92
  dsimp only [argE]
  refine W.run ?_
  refine W.lp (fun _ : Unit => [(0, .nils)]) (fun _ _ => none) (fun _ => True) (fun _ => 0) () rfl (HS.refl _) trivial ?_
  rintro _ nx _ hnx
  refine W.run ?_
  rfl
set_option maxRecDepth 10000 in
theorem k92 (A : List Int) (hA : A.length < 2 ^ 40) : PureC Tryz.prog 92 [slI A] (fun r => r = slI (trimI A)) := by
  refine pureC_of_wp .x mixed ok92 rfl ?_
  unfold c92
  dsimp only [argE]
  refine W.run ?_
  refine W.lp (fun B : List Int => [(0, slI B)]) (fun _ _ => none)
    (fun B => B.length ≤ A.length ∧ trimI B = trimI A) (fun B => B.length) A rfl (HS.refl _) ⟨Nat.le_refl _, rfl⟩ ?_
  rintro B nx ⟨hn, hz⟩ hnx
  by_cases h0 : 0 < B.length
  · have hidx : ((B.length : Int) - 1).toNat = B.length - 1 := by omega
    have hl : ((B.length : Int) - 1).toNat < B.length := by omega
    have hB : B = B.take (B.length - 1) ++ [B[((B.length : Int) - 1).toNat]] := by
      simp only [hidx]
      rw [List.take_append_getElem (by omega)]
      exact (List.take_of_length_le (by omega)).symm
    by_cases he : B[((B.length : Int) - 1).toNat] = 0
    · have ht : trimI (B.take (B.length - 1)) = trimI B := by
        conv => rhs; rw [hB, he]
        rw [trim_zero]
      refine W.run ?_
      have hl2 : (B.take (B.length - 1)).length = B.length - 1 := by simp
      refine W.kl (B.take (B.length - 1)) ?_ (HS.refl _) (by omega) ⟨by omega, by rw [ht, hz]⟩ (by omega)
      rw [hidx]
      show [(0, V.sl ((B.take (B.length - 1)).map (V.int .i64)) (B.length - 1))] = [(0, V.sl ((B.take (B.length - 1)).map (V.int .i64)) (B.take (B.length - 1)).length)]
      rw [hl2]
    · have ht : trimI B = B := by
        have := trim_ne (l := B.take (B.length - 1)) he
        rwa [← hB] at this
      refine W.run ?_
      rw [← hz, ht]
  · have : B = [] := List.length_eq_zero_iff.1 (by omega)
    subst this
    refine W.run ?_
    rw [← hz]; rfl

set_option maxRecDepth 10000 in
theorem k59 (A : List Int) (hA : A.length < 2 ^ 40) (h0 : A.length ≠ 0) : PureC Tryz.prog 59 [slI A] (fun r => r = slI A) := by
  refine pureC_of_wp .x mixed ok59 rfl ?_
  unfold c59
  dsimp only [argE]
  refine W.run ?_
  refine W.lp (fun i : Nat => [(0, slI A), (3, .ref 8 i 0 i), (4, .int .i64 (i : Int))]) (fun i => Hp.put (fun _ => none) 8 { cells := (A.take i).map (V.int .i64), sz := 1, ver := i, nl := if i = 0 then 1 else 0 }) (fun i => i ≤ A.length) (fun i => A.length - i) 0 rfl (HS.put (by simp) (HS.refl _)) (by omega) ?_
  rintro i nx hi hnx
  by_cases hlt : i < A.length
  · refine W.run ?_
    refine W.kl (i + 1) rfl (HS.skip (HS.put ?_ (HS.refl _)) (by simp only [Hp.put]; repeat (rw [if_neg (by omega)])) _) (by omega) (by omega) (by omega)
    rw [← List.take_append_getElem hlt, List.map_append]; rfl
  · have : i = A.length := by omega
    subst this
    refine W.run ?_
    simp [h0]

theorem k86n (P c : Int) (pv : V) (hpv : IsL pv []) : PureC Tryz.prog 86 [refV P, pv, .int .i64 c] (fun r => r = slI []) := by
  have h2 : PureC Tryz.prog 92 [.sl [] 0] (fun r => r = .sl [] 0) := k92 [] (by simp)
  rcases hpv with rfl | ⟨rfl, _⟩
  · refine pureC_of_wp .x mixed ok86 rfl ?_
    unfold c86
    dsimp only [argE, refV]
    refine W.run ?_
    refine W.lp (fun _ : Unit => [(1, slI []), (2, .int .i64 c), (3, .ptr 0 0 0), (7, .ref 16 0 0 0), (8, .int .i64 0)]) (fun _ => (Hp.put (fun _ => none) 0 (refO P)).put 16 { cells := [], sz := 1, nl := 1 }) (fun _ => True) (fun _ => 0) () rfl (HS.refl _) trivial ?_
    rintro _ nx _ hnx
    dsimp only [refO]
    refine W.run ?_
    rfl
  · refine pureC_of_wp .x mixed ok86 rfl ?_
    unfold c86
    dsimp only [argE, refV]
    refine W.run ?_
    refine W.lp (fun _ : Unit => [(1, .nils), (2, .int .i64 c), (3, .ptr 0 0 0), (7, .ref 16 0 0 0), (8, .int .i64 0)]) (fun _ => (Hp.put (fun _ => none) 0 (refO P)).put 16 { cells := [], sz := 1, nl := 1 }) (fun _ => True) (fun _ => 0) () rfl (HS.refl _) trivial ?_
    rintro _ nx _ hnx
    dsimp only [refO]
    refine W.run ?_
    rfl
set_option maxRecDepth 10000 in
set_option maxHeartbeats 1000000 in
theorem k86 (P c : Int) (hP : 3 ≤ P ∧ P < 2 ^ 31) (A : List Int) (hA : A.length < 2 ^ 30) (hrA : InF P A) (hc : 0 ≤ c ∧ c < P) (h0 : A.length ≠ 0) : PureC Tryz.prog 86 [refV P, slI A, .int .i64 c] (fun r => r = slI (scaleF P c A)) := by
  have h2 := k92 (A.map fun x => x * c % P) (by simp; omega)
  refine pureC_of_wp .x mixed ok86 rfl ?_
  unfold c86
  dsimp only [argE, refV]
  refine W.run ?_
  refine W.lp (fun i : Nat => [(1, slI A), (2, .int .i64 c), (3, .ptr 0 0 0), (7, .ref 16 i 0 i), (8, .int .i64 (i : Int))]) (fun i => (Hp.put (fun _ => none) 0 (refO P)).put 16 { cells := ((A.take i).map fun x => x * c % P).map (V.int .i64), sz := 1, ver := i, nl := if i = 0 then 1 else 0 }) (fun i => i ≤ A.length) (fun i => A.length - i) 0 rfl (HS.put (by simp) (HS.refl _)) (by omega) ?_
  rintro i nx hi hnx
  dsimp only [refO]
  by_cases hlt : i < A.length
  · have c1 := k117 P A[i] c hP (hrA _ (List.getElem_mem hlt)) hc
    refine W.run ?_
    refine W.kl (i + 1) rfl (HS.skip (HS.put ?_ (HS.refl _)) (by simp only [Hp.put]; repeat (rw [if_neg (by omega)])) _) (by omega) (by omega) (by omega)
    rw [← List.take_append_getElem hlt, List.map_append, List.map_append]; simp
  · have : i = A.length := by omega
    subst this
    have hml : (A.map fun x => x * c % P).length = A.length := by simp
    unfold slI at h2
    rw [hml] at h2
    rw [List.take_length, if_neg h0]
    refine W.run ?_
    rfl

set_option maxRecDepth 10000 in
theorem k87n (P : Int) (B : List Int) : PureC Tryz.prog 87 [refV P, slI [], slI B] (fun r => r = .nils) := by
  refine pureC_of_wp .x mixed ok87 rfl ?_
  unfold c87
  dsimp only [argE, refV]
  refine W.run ?_
  rfl
set_option maxRecDepth 10000 in
set_option maxHeartbeats 1000000 in
theorem k87 (P : Int) (hP : 3 ≤ P ∧ P < 2 ^ 31) (A B : List Int) (hA : A.length < 2 ^ 30) (hB : B.length < 2 ^ 30) (hrA : InF P A) (hrB : InF P B) (h0 : A.length ≠ 0) (h1 : B.length ≠ 0) : PureC Tryz.prog 87 [refV P, slI A, slI B] (fun r => r = slI (convF P A B)) := by
  refine pureC_of_wp .x mixed ok87 rfl ?_
  unfold c87
  dsimp only [argE, refV]
  obtain ⟨n, hnn⟩ : ∃ n, n = A.length + B.length - 1 := ⟨_, rfl⟩
  have hcl : (convF P A B).length = n := by rw [convF_len, hnn]
  have hn : ((A.length : Int) + (B.length : Int) - 1).toNat = n := by omega
  refine W.run ?_
  rw [hn, zeros_map]
  refine W.run ?_
  refine W.lp (fun y : Nat × List Int => [(1, slI A), (2, slI B), (3, .ptr 0 0 0), (7, .ref 128 0 0 n), (8, .int .i64 (y.1 : Int))]) (fun y => (Hp.put (fun _ => none) 0 (refO P)).put 128 { cells := y.2.map (V.int .i64), sz := 1 })
      (fun y => y.1 ≤ A.length ∧ y.2.length = n ∧ InF P y.2 ∧ prodM P B (A.drop y.1) y.1 y.2 = convF P A B) (fun y => A.length - y.1) (0, List.replicate n 0) rfl (HS.refl _) ⟨by dsimp only; omega, by simp, InF.rep (by omega) n, by rw [List.drop_zero, hnn]; rfl⟩ ?_
  rintro ⟨i, C⟩ nx ⟨hi, hl, hC, hpr⟩ hnx
  dsimp only [refO] at hi hl hC hpr ⊢
  by_cases hlt : i < A.length
  · rw [prodM_drop hlt] at hpr
    refine W.run ?_
    refine W.lp (fun y : Nat × List Int => [(1, slI A), (2, slI B), (3, .ptr 0 0 0), (7, .ref 128 0 0 n), (8, .int .i64 (i : Int)), (9, .int .i64 (y.1 : Int))]) (fun y => (Hp.put (fun _ => none) 0 (refO P)).put 128 { cells := y.2.map (V.int .i64), sz := 1 })
      (fun y => y.1 ≤ B.length ∧ y.2.length = n ∧ InF P y.2 ∧ rowM P A[i] i (B.drop y.1) y.1 y.2 = rowM P A[i] i B 0 C) (fun y => B.length - y.1) (0, C) rfl (HS.refl _) ⟨by dsimp only; omega, hl, hC, by rw [List.drop_zero]⟩ ?_
    rintro ⟨j, D⟩ nx1 ⟨hj, hl1, hD, hro⟩ hnx1
    dsimp only [refO] at hj hl1 hD hro ⊢
    by_cases hjt : j < B.length
    · rw [rowM_drop hjt] at hro
      have hi1 : i + j < D.length := by omega
      have hidx : ((i : Int) + (j : Int)).toNat = i + j := by omega
      have hi2 : ((i : Int) + (j : Int)).toNat < D.length := by omega
      have ha := hrA A[i] (List.getElem_mem hlt)
      have hb := hrB B[j] (List.getElem_mem hjt)
      have hc := hD (D[((i : Int) + (j : Int)).toNat]'hi2) (List.getElem_mem _)
      have c1 := k117 P A[i] B[j] hP ha hb
      have c2 := k118 P (D[((i : Int) + (j : Int)).toNat]'hi2) (A[i] * B[j] % P) hP hc (emod_rng (by omega))
      refine W.run ?_
      refine W.kl (j + 1, D.set (i + j) ((D.getD (i + j) 0 + A[i] * B[j] % P) % P)) rfl ?_ (by omega) ⟨by dsimp only; omega, by simpa using hl1, hD.set _ (emod_rng (by omega)), hro⟩ (by dsimp only; omega)
      refine HS.put ?_ (HS.refl _)
      rw [← hidx, List.getD_eq_getElem?_getD, List.getElem?_eq_getElem hi2, Option.getD_some, List.set_eq_take_append_cons_drop, if_pos hi2]; simp
    · have : j = B.length := by omega
      subst this
      rw [List.drop_length] at hro
      refine W.run ?_
      refine W.kl (i + 1, D) rfl (HS.refl _) (by omega) ⟨by dsimp only; omega, hl1, hD, ?_⟩ (by dsimp only; omega)
      dsimp only
      rw [← hpr, ← hro]; rfl
  · have : i = A.length := by omega
    subst this
    rw [List.drop_length] at hpr
    have e : convF P A B = C := hpr.symm
    rw [e]
    refine W.run ?_
    rw [← hl]

theorem addR_get {P : Int} : ∀ {A B : List Int} {i : Nat} (h : i < (addR P A B).length), (addR P A B)[i] = if hB : i < B.length then ((if hA : i < A.length then A[i] else 0) + B[i]) % P else A.getD i 0
  | A, [], i, h => by
    cases A with
    | nil => simp [addR] at h
    | cons x p =>
      have : i < (x :: p).length := by simpa [addR] using h
      simp [addR, List.getD_eq_getElem?_getD, List.getElem?_eq_getElem this]
  | [], b :: B, 0, h => by simp [addR]
  | [], b :: B, i + 1, h => by
    have := addR_get (P := P) (A := []) (B := B) (i := i) (by simpa [addR] using h)
    simp only [addR, List.getElem_cons_succ, this]
    simp
  | a :: A, b :: B, 0, h => by simp [addR]
  | a :: A, b :: B, i + 1, h => by
    have := addR_get (P := P) (A := A) (B := B) (i := i) (by simpa [addR] using h)
    simp only [addR, List.getElem_cons_succ, this]
    simp

set_option maxRecDepth 10000 in
set_option maxHeartbeats 1000000 in
theorem k91 (P : Int) (hP : 3 ≤ P ∧ P < 2 ^ 31) (A B : List Int) (hA : A.length < 2 ^ 30) (hB : B.length < 2 ^ 30) (hrA : InF P A) (hrB : InF P B) (pv : V) (hpv : IsL pv A) : PureC Tryz.prog 91 [refV P, pv, slI B] (fun r => r = slI (sumR P A B)) := by
  obtain ⟨C, hC⟩ : ∃ C, C = addR P A B := ⟨_, rfl⟩
  have hCl : C.length = max A.length B.length := by rw [hC, addR_len]
  have h2 := k92 C (by omega)
  have hCg : ∀ i (h : i < C.length), C[i] = if hB : i < B.length then ((if hA : i < A.length then A[i] else 0) + B[i]) % P else A.getD i 0 := fun i h => by
    subst hC; exact addR_get h
  have e : sumR P A B = trimI C := by rw [hC]; rfl
  rw [e]
  clear e hC
  rcases hpv with rfl | ⟨rfl, rfl⟩
  · refine pureC_of_wp .x mixed ok91 rfl ?_
    unfold c91
    dsimp only [argE, refV]
    refine W.run ?_
    refine W.lp (fun i : Nat => [(1, slI A), (2, slI B), (3, .ptr 0 0 0), (7, .ref 16 i 0 i), (8, .int .i64 (i : Int))]) (fun i => (Hp.put (fun _ => none) 0 (refO P)).put 16 { cells := (C.take i).map (V.int .i64), sz := 1, ver := i, nl := if i = 0 then 1 else 0 }) (fun i => i ≤ C.length) (fun i => C.length - i) 0 rfl (HS.put (by simp) (HS.refl _)) (by omega) ?_
    rintro i nx hi hnx
    dsimp only [refO]
    by_cases hlt : i < C.length
    · have hg := hCg i hlt
      have fin : (C.take (i + 1)).map (V.int .i64) = (C.take i).map (V.int .i64) ++ [V.int .i64 C[i]] := by
        rw [← List.take_append_getElem hlt, List.map_append]; rfl
      by_cases hia : i < A.length
      · by_cases hib : i < B.length
        · rw [dif_pos hib, dif_pos hia] at hg
          have c1 := k118 P A[i] B[i] hP (hrA _ (List.getElem_mem hia)) (hrB _ (List.getElem_mem hib))
          rw [← hg] at c1
          refine W.run ?_
          refine W.kl (i + 1) rfl (HS.skip (HS.put ?_ (HS.refl _)) (by simp only [Hp.put]; repeat (rw [if_neg (by omega)])) _) (by omega) (by omega) (by omega)
          rw [fin]; simp
        · rw [dif_neg hib, List.getD_eq_getElem?_getD, List.getElem?_eq_getElem hia, Option.getD_some] at hg
          refine W.run ?_
          refine W.kl (i + 1) rfl (HS.skip (HS.put ?_ (HS.refl _)) (by simp only [Hp.put]; repeat (rw [if_neg (by omega)])) _) (by omega) (by omega) (by omega)
          rw [fin, hg]; simp
      · have hib : i < B.length := by omega
        rw [dif_pos hib, dif_neg hia] at hg
        have c1 := k118 P 0 B[i] hP (by omega) (hrB _ (List.getElem_mem hib))
        rw [← hg] at c1
        refine W.run ?_
        refine W.kl (i + 1) rfl (HS.skip (HS.put ?_ (HS.refl _)) (by simp only [Hp.put]; repeat (rw [if_neg (by omega)])) _) (by omega) (by omega) (by omega)
        rw [fin]; simp
    · have : i = C.length := by omega
      subst this
      rw [List.take_length]
      refine W.run ?_
      rfl
  · refine pureC_of_wp .x mixed ok91 rfl ?_
    unfold c91
    dsimp only [argE, refV]
    refine W.run ?_
    refine W.lp (fun i : Nat => [(1, .nils), (2, slI B), (3, .ptr 0 0 0), (7, .ref 16 i 0 i), (8, .int .i64 (i : Int))]) (fun i => (Hp.put (fun _ => none) 0 (refO P)).put 16 { cells := (C.take i).map (V.int .i64), sz := 1, ver := i, nl := if i = 0 then 1 else 0 }) (fun i => i ≤ C.length) (fun i => C.length - i) 0 rfl (HS.put (by simp) (HS.refl _)) (by omega) ?_
    rintro i nx hi hnx
    dsimp only [refO]
    simp only [List.length_nil] at hCl
    by_cases hlt : i < C.length
    · have hg := hCg i hlt
      have fin : (C.take (i + 1)).map (V.int .i64) = (C.take i).map (V.int .i64) ++ [V.int .i64 C[i]] := by
        rw [← List.take_append_getElem hlt, List.map_append]; rfl
      have hib : i < B.length := by omega
      rw [dif_pos hib, dif_neg (by simp)] at hg
      have c1 := k118 P 0 B[i] hP (by omega) (hrB _ (List.getElem_mem hib))
      rw [← hg] at c1
      refine W.run ?_
      refine W.kl (i + 1) rfl (HS.skip (HS.put ?_ (HS.refl _)) (by simp only [Hp.put]; repeat (rw [if_neg (by omega)])) _) (by omega) (by omega) (by omega)
      rw [fin]; simp
    · have : i = C.length := by omega
      subst this
      rw [List.take_length]
      refine W.run ?_
      rfl
end Go.Dp

namespace Go.Dp
open Go.RowKit Go.Proofs
attribute [local irreducible] wp wpOps wpOp1 CallW CallT kSeq kBlk kLoop kReg retP retR kAsg kRound kRf kCut kItr
set_option linter.unusedVariables false
set_option linter.unusedSimpArgs false

theorem lagG_drop {P x : Int} {X l : List Int} {j : Nat} (h : j < X.length) : lagG P x (X.drop j) l = lagG P x (X.drop (j + 1)) (if X[j] = x then l else scaleF P (invF P (subF P x X[j])) (prodR P l [negF P X[j], 1])) := by
  rw [List.drop_eq_getElem_cons h]; rfl
theorem lagO_drop {P : Int} {X Y xs out : List Int} {i : Nat} (h1 : i < X.length) (h2 : i < Y.length) : lagO P xs (X.drop i) (Y.drop i) out = lagO P xs (X.drop (i + 1)) (Y.drop (i + 1)) (sumR P out (trimI (lagG P X[i] xs [Y[i]]))) := by
  rw [List.drop_eq_getElem_cons h1, List.drop_eq_getElem_cons h2]; rfl
theorem nodup_get {X : List Int} (hn : X.Nodup) {i j : Nat} (hi : i < X.length) (hj : j < X.length) (h : X[i] = X[j]) : i = j := by
  exact (List.getElem_inj hn).1 h

def inV : Bool → Nat → List Int → V
  | false, id, _ => .ref id 0 0 1
  | true, _, l => slI l
def inH (H : Hp) : Bool → Nat → List Int → Hp
  | false, id, l => H.put id { cells := l.map (V.int .i64), sz := 1 }
  | true, _, _ => H
def outV : Nat → List Int → V
  | 0, _ => .nils
  | _ + 1, l => slI l
set_option maxRecDepth 10000 in
set_option maxHeartbeats 2000000 in
theorem k58 (P : Int) (hP : 3 ≤ P ∧ P < 2 ^ 31) (X Y : List Int) (hl : Y.length = X.length) (h0 : X.length ≠ 0) (hX : X.length ≤ 200) (hrX : InF P X) (hrY : InF P Y) (hn : X.Nodup) : PureC Tryz.prog 58 [refV P, slI X, slI Y] (fun r => r = slI (lagO P X X Y [])) := by
  refine pureC_of_wp .x mixed ok58 rfl ?_
  unfold c58
  dsimp only [argE, refV]
  refine W.run ?_
  refine W.lp (fun y : Nat × List Int => [(1, slI X), (2, slI Y), (3, .ptr 0 0 0), (7, outV y.1 y.2), (8, .int .i64 (y.1 : Int))]) (fun _ => Hp.put (fun _ => none) 0 (refO P))
    (fun y => y.1 ≤ X.length ∧ (y.1 = 0 → y.2 = []) ∧ InF P y.2 ∧ y.2.length ≤ 201 ∧ lagO P X (X.drop y.1) (Y.drop y.1) y.2 = lagO P X X Y []) (fun y => X.length - y.1) (0, []) rfl (HS.refl _) ⟨by dsimp only; omega, fun _ => rfl, InF.nil, by simp, by rw [List.drop_zero, List.drop_zero]⟩ ?_
  rintro ⟨i, out⟩ nx ⟨hi, h00, ho, hol, hrec⟩ hnx
  dsimp only at hi h00 ho hol hrec
  by_cases hlt : i < X.length
  case neg =>
    have hi' : i = X.length := by omega
    rw [hi', List.drop_length] at hrec
    have h4 : out = lagO P X X Y [] := hrec
    rcases i with _ | i
    · omega
    · rw [h4]
      dsimp only [refO, outV]
      refine W.run ?_
      rfl
  have hlt2 : i < Y.length := by omega
  rw [lagO_drop hlt hlt2] at hrec
  have hx := hrX X[i] (List.getElem_mem hlt)
  have hy := hrY Y[i] (List.getElem_mem hlt2)
  have hout : IsL (outV i out) out := by
    rcases i with _ | i
    · exact .inr ⟨rfl, h00 rfl⟩
    · exact .inl rfl
  generalize outV i out = ov at hout ⊢
  dsimp only [refO]
  refine W.run ?_
  refine W.lp (fun y : Nat × Bool × List Int => [(1, slI X), (2, slI Y), (3, .ptr 0 0 0), (7, ov), (8, .int .i64 (i : Int)), (9, inV y.2.1 (nx + 32 + 32) y.2.2), (10, .int .i64 (y.1 : Int))]) (fun y => inH (Hp.put (fun _ => none) 0 (refO P)) y.2.1 (nx + 32 + 32) y.2.2)
    (fun y => y.1 ≤ X.length ∧ (y.2.1 = false → y.2.2 = [Y[i]]) ∧ InF P y.2.2 ∧ y.2.2.length ≤ y.1 + 1 ∧ lagG P X[i] (X.drop y.1) y.2.2 = lagG P X[i] X [Y[i]]) (fun y => X.length - y.1) (0, false, [Y[i]]) rfl (HS.refl _) ⟨by dsimp only; omega, fun _ => rfl, InF.cons hy InF.nil, by simp, by rw [List.drop_zero]⟩ ?_
  rintro ⟨j, b, l⟩ nx1 ⟨hj, hb, hli, hll, hG⟩ hnx1
  dsimp only at hj hb hli hll hG
  by_cases hjt : j < X.length
  · rw [lagG_drop hjt] at hG
    have hw := hrX X[j] (List.getElem_mem hjt)
    by_cases hji : j = i
    · subst hji
      rw [if_pos rfl] at hG
      cases b
      · dsimp only [refO, inV, inH]
        refine W.run ?_
        exact W.kl (j + 1, false, l) rfl (HS.refl _) (by omega) ⟨by dsimp only; omega, hb, hli, by dsimp only; omega, hG⟩ (by dsimp only; omega)
      · dsimp only [refO, inV, inH]
        refine W.run ?_
        exact W.kl (j + 1, true, l) rfl (HS.refl _) (by omega) ⟨by dsimp only; omega, hb, hli, by dsimp only; omega, hG⟩ (by dsimp only; omega)
    rw [if_neg (fun h => hji (nodup_get hn hjt hlt h))] at hG
    have hng : 0 ≤ negF P X[j] ∧ negF P X[j] < P := emod_rng (by omega)
    have hsb : 0 ≤ subF P X[i] X[j] ∧ subF P X[i] X[j] < P := emod_rng (by omega)
    have hiv : 0 ≤ invF P (subF P X[i] X[j]) ∧ invF P (subF P X[i] X[j]) < P := emod_rng (by omega)
    have c1 := k88 P X[j] hP hw
    have c2 := k90 P X[i] X[j] hP hx hw
    have c3 := k89 P (subF P X[i] X[j]) hP hsb
    have hB : InF P [negF P X[j], 1] := InF.cons hng (InF.cons (by omega) InF.nil)
    have hres : InF P (scaleF P (invF P (subF P X[i] X[j])) (prodR P l [negF P X[j], 1])) := scaleF_in (by omega) _
    have hrl : (scaleF P (invF P (subF P X[i] X[j])) (prodR P l [negF P X[j], 1])).length ≤ j + 1 + 1 := by
      have h1 := scaleF_len (P := P) (k := invF P (subF P X[i] X[j])) (prodR P l [negF P X[j], 1])
      have h2 := prodR_len (P := P) l [negF P X[j], 1]
      simp only [List.length_cons, List.length_nil] at h2
      omega
    by_cases hl0 : l.length = 0
    · have hl0' : l = [] := List.length_eq_zero_iff.1 hl0
      subst hl0'
      have e : prodR P [] [negF P X[j], 1] = [] := by unfold prodR; rw [if_pos (.inl rfl)]
      have e2 : scaleF P (invF P (subF P X[i] X[j])) [] = [] := rfl
      rw [e, e2] at hG hres
      have c4 : PureC Tryz.prog 87 [refV P, slI [], .sl [.int .i64 (negF P X[j]), .int .i64 1] 2] (fun r => r = .nils) := k87n P [negF P X[j], 1]
      have c5 := k86n P (invF P (subF P X[i] X[j])) .nils (.inr ⟨rfl, rfl⟩)
      cases b
      · exact absurd (hb rfl) (by simp)
      · dsimp only [refO, inV, inH, refV] at c1 c2 c3 c4 c5 ⊢
        refine W.run ?_
        refine W.kl (j + 1, true, []) rfl (HS.skip (HS.refl _) (by simp only [Hp.put]; repeat (rw [if_neg (by omega)])) _) (by omega) ⟨by dsimp only; omega, fun h => (by cases h), hres, by simp, hG⟩ (by dsimp only; omega)
    · have e : prodR P l [negF P X[j], 1] = convF P l [negF P X[j], 1] := by unfold prodR; rw [if_neg]; simp; exact List.ne_nil_of_length_pos (by omega)
      rw [e] at hG hres hrl
      have c4 : PureC Tryz.prog 87 [refV P, slI l, .sl [.int .i64 (negF P X[j]), .int .i64 1] 2] (fun r => r = slI (convF P l [negF P X[j], 1])) := k87 P hP l [negF P X[j], 1] (by omega) (by simp) hli hB hl0 (by simp)
      have hcl := convF_len (P := P) (p := l) (q := [negF P X[j], 1])
      simp only [List.length_cons, List.length_nil] at hcl
      have c5 := k86 P (invF P (subF P X[i] X[j])) hP (convF P l [negF P X[j], 1]) (by omega) (convF_in (by omega)) hiv (by omega)
      cases b
      · obtain rfl := hb rfl
        dsimp only [refO, inV, inH, refV, slI, List.map_cons, List.map_nil, List.length_cons, List.length_nil] at c1 c2 c3 c4 c5 ⊢
        refine W.run ?_
        exact W.kl (j + 1, true, scaleF P (invF P (subF P X[i] X[j])) (convF P [Y[i]] [negF P X[j], 1])) rfl (HS.skip (HS.skip (HS.refl _) (by simp only [Hp.put]; repeat (rw [if_neg (by omega)])) _) (by simp only [Hp.put]; repeat (rw [if_neg (by omega)])) _) (by omega) ⟨by dsimp only; omega, fun h => (by cases h), hres, hrl, hG⟩ (by dsimp only; omega)
      · dsimp only [refO, inV, inH, refV] at c1 c2 c3 c4 c5 ⊢
        refine W.run ?_
        exact W.kl (j + 1, true, scaleF P (invF P (subF P X[i] X[j])) (convF P l [negF P X[j], 1])) rfl (HS.skip (HS.refl _) (by simp only [Hp.put]; repeat (rw [if_neg (by omega)])) _) (by omega) ⟨by dsimp only; omega, fun h => (by cases h), hres, hrl, hG⟩ (by dsimp only; omega)
  · have hj' : j = X.length := by omega
    rw [hj', List.drop_length] at hG
    have hG' : l = lagG P X[i] X [Y[i]] := hG
    rw [← hG'] at hrec
    have c1 := k92 l (by omega)
    have c2 := k91 P hP out (trimI l) (by omega) (by have := trimI_len l; omega) ho (trimI_in hli) ov hout
    have hsl : (sumR P out (trimI l)).length ≤ 201 := by
      have h1 := sumR_len (P := P) out (trimI l)
      have h2 := trimI_len l
      omega
    have hsi : InF P (sumR P out (trimI l)) := sumR_in (by omega) ho
    cases b
    · obtain rfl := hb rfl
      rcases hout with rfl | ⟨rfl, rfl⟩
      · dsimp only [refO, inV, inH, refV, slI, List.map_cons, List.map_nil, List.length_cons, List.length_nil] at c1 c2 ⊢
        refine W.run ?_
        exact W.kl (i + 1, sumR P out (trimI [Y[i]])) rfl (HS.skip (HS.refl _) (by simp only [Hp.put]; repeat (rw [if_neg (by omega)])) _) (by omega) ⟨by dsimp only; omega, fun h => (by cases h), hsi, hsl, hrec⟩ (by dsimp only; omega)
      · dsimp only [refO, inV, inH, refV, slI, List.map_cons, List.map_nil, List.length_cons, List.length_nil] at c1 c2 ⊢
        refine W.run ?_
        exact W.kl (i + 1, sumR P [] (trimI [Y[i]])) rfl (HS.skip (HS.refl _) (by simp only [Hp.put]; repeat (rw [if_neg (by omega)])) _) (by omega) ⟨by dsimp only; omega, fun h => (by cases h), hsi, hsl, hrec⟩ (by dsimp only; omega)
    · rcases hout with rfl | ⟨rfl, rfl⟩
      · dsimp only [refO, inV, inH, refV] at c1 c2 ⊢
        refine W.run ?_
        exact W.kl (i + 1, sumR P out (trimI l)) rfl (HS.refl _) (by omega) ⟨by dsimp only; omega, fun h => (by cases h), hsi, hsl, hrec⟩ (by dsimp only; omega)
      · dsimp only [refO, inV, inH, refV] at c1 c2 ⊢
        refine W.run ?_
        exact W.kl (i + 1, sumR P [] (trimI l)) rfl (HS.refl _) (by omega) ⟨by dsimp only; omega, fun h => (by cases h), hsi, hsl, hrec⟩ (by dsimp only; omega)
end Go.Dp
