import Derived.Test.YtkadcajmlkmhjabGreatDqN3
namespace Go.Dp
open Go.RowKit Go.Proofs
attribute [local irreducible] wp wpOps wpOp1 CallW CallT kSeq kBlk kLoop kReg retP retR kAsg kRound kRf
set_option linter.unusedVariables false
set_option linter.unusedSimpArgs false
/-- the numbers fit -/
abbrev Bd (R P G : Int) : Prop := (-2^63 ≤ R ∧ R < 2^63) ∧ (-2^63 ≤ P ∧ P < 2^63) ∧ (-2^63 ≤ G ∧ G < 2^63)

set_option maxRecDepth 10000 in
theorem k39i {R P G : Int} (b : Bd R P G) (hn : ¬ GroupI R P G) : PureC Tryz.prog 39 [grp R P G, .int .i64 0] (fun r => r = .tup [.int .i64 0, .int .i64 80]) := by
  have c := k43f b hn
  clear b hn
  refine pureC_of_wp .x mixed ok39 rfl ?_
  unfold c39
  dsimp only [argE]
  refine W.go ?_
  refine W.cl c ?_
  refine W.go ?_
  rfl

set_option maxRecDepth 10000 in
theorem k60i {R P G : Int} (b : Bd R P G) (hn : ¬ GroupI R P G) : PureC Tryz.prog 60 [grp R P G, .nils] (fun r => r = .int .i64 80) := by
  have c := k43f b hn
  clear b hn
  refine pureC_of_wp .x mixed ok60 rfl ?_
  unfold c60
  dsimp only [argE]
  refine W.go ?_
  refine W.cl c ?_
  refine W.go ?_
  rfl

set_option maxRecDepth 10000 in
theorem k19i {R P G : Int} (b : Bd R P G) (hn : ¬ GroupI R P G) : PureC Tryz.prog 19 [grp R P G, .nils, .int .i64 0] (fun r => r = .tup [.own [] 0 1, .int .i64 80]) := by
  have c := k60i b hn
  clear b hn
  refine pureC_of_wp (.l [.s 1, .x]) mixed ok19 rfl ?_
  unfold c19
  dsimp only [argE]
  refine W.go ?_
  refine W.cl c ?_
  refine W.go ?_
  rfl

set_option maxRecDepth 10000 in
theorem k20i {R P G : Int} (b : Bd R P G) (hn : ¬ GroupI R P G) : PureC Tryz.prog 20 [grp R P G, .nils] (fun r => r = .tup [.own [] 0 1, .int .i64 80]) := by
  have c := k60i b hn
  clear b hn
  refine pureC_of_wp (.l [.s 1, .x]) mixed ok20 rfl ?_
  unfold c20
  dsimp only [argE]
  refine W.go ?_
  refine W.cl c ?_
  refine W.go ?_
  rfl

set_option maxRecDepth 10000 in
theorem k46i {R P G : Int} (b : Bd R P G) (hn : ¬ GroupI R P G) : PureC Tryz.prog 46 [grp R P G, .nils, .nils] (fun r => r = .int .i64 80) := by
  have c := k43f b hn
  clear b hn
  refine pureC_of_wp .x mixed ok46 rfl ?_
  unfold c46
  dsimp only [argE]
  refine W.go ?_
  refine W.cl c ?_
  refine W.go ?_
  rfl

set_option maxRecDepth 10000 in
theorem k11i {R P G : Int} (b : Bd R P G) (hn : ¬ GroupI R P G) : PureC Tryz.prog 11 [grp R P G, .nils, .nils] (fun r => r = .tup [.int .i64 0, .int .i64 80]) := by
  have c := k46i b hn
  clear b hn
  refine pureC_of_wp .x mixed ok11 rfl ?_
  unfold c11
  dsimp only [argE]
  refine W.go ?_
  refine W.cl c ?_
  refine W.go ?_
  rfl

set_option maxRecDepth 10000 in
theorem k12i {R P G : Int} (b : Bd R P G) (hn : ¬ GroupI R P G) : PureC Tryz.prog 12 [grp R P G, .nils, .nils] (fun r => r = .tup [.own [] 0 1, .int .i64 80]) := by
  have c := k46i b hn
  clear b hn
  refine pureC_of_wp (.l [.s 1, .x]) mixed ok12 rfl ?_
  unfold c12
  dsimp only [argE]
  refine W.go ?_
  refine W.cl c ?_
  refine W.go ?_
  rfl

set_option maxRecDepth 10000 in
theorem k44i {R P G : Int} (b : Bd R P G) (hn : ¬ GroupI R P G) : PureC Tryz.prog 44 [grp R P G, .int .i64 0, .nils, .nils] (fun r => r = .tup [.int .i64 0, .own [] 0 1, .int .i64 80]) := by
  have c := k46i b hn
  clear b hn
  refine pureC_of_wp (.l [.x, .s 1, .x]) mixed ok44 rfl ?_
  unfold c44
  dsimp only [argE]
  refine W.go ?_
  refine W.cl c ?_
  refine W.go ?_
  rfl

set_option maxRecDepth 10000 in
theorem k28i {R P G : Int} (b : Bd R P G) (hn : ¬ GroupI R P G) : PureC Tryz.prog 28 [grp R P G, .int .i64 0, .int .i64 0, .int .i64 0] (fun r => r = .tup [grp 0 0 0, .int .i64 80]) := by
  have c := k43f b hn
  clear b hn
  refine pureC_of_wp .x mixed ok28 rfl ?_
  unfold c28
  dsimp only [argE]
  refine W.go ?_
  refine W.cl c ?_
  refine W.go ?_
  rfl

set_option maxRecDepth 10000 in
theorem k33i {R P G : Int} (b : Bd R P G) (hn : ¬ GroupI R P G) : PureC Tryz.prog 33 [grp R P G, grp 0 0 0, grp 0 0 0] (fun r => r = .tup [.int .i64 0, .int .i64 80]) := by
  have c := k43f b hn
  clear b hn
  refine pureC_of_wp .x mixed ok33 rfl ?_
  unfold c33
  dsimp only [argE]
  refine W.go ?_
  refine W.cl c ?_
  refine W.go ?_
  rfl

set_option maxRecDepth 10000 in
theorem k35i {R P G : Int} (b : Bd R P G) (hn : ¬ GroupI R P G) : PureC Tryz.prog 35 [grp R P G, .int .i64 1, .int .i64 0, .int .i64 0] (fun r => r = .tup [grp 0 0 0, .int .i64 80]) := by
  have c := k43f b hn
  clear b hn
  refine pureC_of_wp .x mixed ok35 rfl ?_
  unfold c35
  dsimp only [argE]
  refine W.go ?_
  refine W.cl c ?_
  refine W.go ?_
  rfl

set_option maxRecDepth 10000 in
theorem k45i {R P G : Int} (b : Bd R P G) (hn : ¬ GroupI R P G) : PureC Tryz.prog 45 [grp R P G, .int .i64 1] (fun r => r = .bool false) := by
  have c := k43f b hn
  clear b hn
  refine pureC_of_wp .x mixed ok45 rfl ?_
  unfold c45
  dsimp only [argE]
  refine W.go ?_
  refine W.cl c ?_
  refine W.go ?_
  rfl

set_option maxRecDepth 10000 in
theorem k25i {R P G : Int} (b : Bd R P G) (hn : ¬ GroupI R P G) : PureC Tryz.prog 25 [grp R P G, .sl [.int .i64 1] 1, .int .i64 1, .int .i64 0] (fun r => r = .bool false) := by
  have c := k43f b hn
  clear b hn
  refine pureC_of_wp .x mixed ok25 rfl ?_
  unfold c25
  dsimp only [argE]
  refine W.go ?_
  refine W.cl c ?_
  refine W.go ?_
  rfl

set_option maxRecDepth 10000 in
theorem k31i {R P G : Int} (b : Bd R P G) (hn : ¬ GroupI R P G) : PureC Tryz.prog 31 [grp R P G, .int .i64 1, grp 1 0 0] (fun r => r = .bool false) := by
  have c := k43f b hn
  clear b hn
  refine pureC_of_wp .x mixed ok31 rfl ?_
  unfold c31
  dsimp only [argE]
  refine W.go ?_
  refine W.cl c ?_
  refine W.go ?_
  rfl

set_option maxRecDepth 10000 in
theorem k21i {R P G : Int} (b : Bd R P G) (hn : ¬ GroupI R P G) : PureC Tryz.prog 21 [grp R P G, .nils, .nils] (fun r => r = .tup [.own [] 0 1, .int .i64 80]) := by
  have c := k60i b hn
  clear b hn
  refine pureC_of_wp (.l [.s 1, .x]) mixed ok21 rfl ?_
  unfold c21
  dsimp only [argE]
  refine W.go ?_
  refine W.lp (fun i : Int => [(1, .nils), (2, .nils), (3, .ptr 0 0 0), (16, .ref 40 0 0 2), (17, .int .i64 2), (18, .int .i64 i)]) (fun _ => Hp.put (Hp.put (fun _ => none) 0 { cells := [.int .i64 R, .int .i64 P, .int .i64 G], sz := 3 }) 40 { cells := [.nils, .nils], sz := 1 })
    (fun i => i = 0) (fun _ => 0) 0 rfl (HS.refl _) rfl ?_
  rintro i nx rfl hnx
  refine W.go ?_
  refine W.cl c ?_
  refine W.go ?_
  rfl

set_option maxRecDepth 10000 in
theorem k42f {R P G : Int} (b : Bd R P G) (h : ¬ GroupI R P G) : PureC Tryz.prog 42 [grp R P G] (fun r => r = .int .i64 80) := by
  refine pureC_of_wp .x mixed ok42 rfl ?_
  unfold c42
  dsimp only [argE]
  by_cases h1 : R < 3
  · refine W.go ?_; rfl
  by_cases h2 : 2147483647 < R
  · refine W.go ?_; rfl
  by_cases h3 : P < 3
  · refine W.go ?_; rfl
  by_cases h4 : 65521 < P
  · refine W.go ?_; rfl
  by_cases h5 : G < 2
  · refine W.go ?_; rfl
  by_cases h6 : R ≤ G
  · refine W.go ?_; rfl
  have c1 := k74 R (by omega) (by omega)
  have c2 := k74 P (by omega) (by omega)
  have c3 := k63 G P R (by omega) (by omega) (by omega) (by omega) (by omega)
  by_cases pR : PrimeI R
  case neg =>
    rw [primeB_not pR] at c1
    refine W.go ?_
    refine W.cl c1 ?_
    refine W.go ?_
    rfl
  rw [primeB_of pR] at c1
  by_cases pP : PrimeI P
  case neg =>
    rw [primeB_not pP] at c2
    refine W.go ?_
    refine W.cl c1 ?_
    refine W.go ?_
    refine W.cl c2 ?_
    refine W.go ?_
    rfl
  rw [primeB_of pP] at c2
  by_cases hd : (R - 1) % P = 0
  case neg =>
    refine W.go ?_
    refine W.cl c1 ?_
    refine W.go ?_
    refine W.cl c2 ?_
    refine W.go ?_
    rfl
  have one : ¬ G ^ P.toNat % R = 1 := fun one => h ⟨by omega, by omega, hd, by omega, pR, pP, one⟩
  clear h
  refine W.go ?_
  refine W.cl c1 ?_
  refine W.go ?_
  refine W.cl c2 ?_
  refine W.go ?_
  refine W.cl c3 ?_
  refine W.go ?_
  rfl
end Go.Dp
