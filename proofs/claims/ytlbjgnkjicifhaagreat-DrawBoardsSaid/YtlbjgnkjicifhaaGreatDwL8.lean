/- DrawBoards: what any board shows: who has dealt, who is in, which secrets are known, the sum, the ball, and all guilt. -/
import Derived.Test.YtlbjgnkjicifhaaGreatDwL4
import Derived.Test.YtlbjgnkjicifhaaGreatDsF4
namespace Go.Dp
open Go.RowKit Go.Proofs
attribute [local irreducible] wp wpOps wpOp1 CallW CallT kSeq kBlk kLoop kReg retP retR kAsg kRound kRf kCut kItr kItr2
set_option linter.unusedVariables false
set_option linter.unusedSimpArgs false

/-- lines as they come -/
def LnA (l : List Ln) : Prop := l.length < 2 ^ 63 ∧ ∀ x ∈ l, x.nums.length < 2 ^ 63 ∧ ∀ n ∈ x.nums, B64 n
abbrev tyLn : Ty := .cons (.int .i64) (.cons (.int .i64) (.cons (.int .i64) (.cons (.sl (.int .i64)) (.nil))))
theorem ok_ln {l : List V} (h : tyLn.ok l) : ∃ x : Ln, l = lnK x ∧ x.nums.length < 2 ^ 63 ∧ ∀ n ∈ x.nums, B64 n := by
 obtain ⟨a1, a2, rfl, h1, a3, a4, rfl, h2, a5, a6, rfl, h3, a7, a8, rfl, h4, rfl⟩ := h
 obtain ⟨z1, rfl, _⟩ := ok_i64 h1
 obtain ⟨z2, rfl, _⟩ := ok_i64 h2
 obtain ⟨z3, rfl, _⟩ := ok_i64 h3
 obtain ⟨zs, rfl, hl, hz⟩ := ok_longs h4
 exact ⟨⟨z1, z2, z3, zs⟩, rfl, by unfold maxLen at hl; dsimp only; omega, fun n hn => by have := hz n hn; unfold B64; omega⟩
theorem ok_lns : ∀ {ls : List (List V)}, (∀ x ∈ ls, tyLn.ok x) → ∃ L : List Ln, ls.flatten = linC L ∧ ls.length = L.length ∧ ∀ x ∈ L, x.nums.length < 2 ^ 63 ∧ ∀ n ∈ x.nums, B64 n
 | [], _ => ⟨[], rfl, rfl, by simp⟩
 | l :: ls, h => by
  obtain ⟨x, rfl, hx⟩ := ok_ln (h l (by simp))
  obtain ⟨L, e1, e2, hL⟩ := ok_lns (ls := ls) fun y hy => h y (by simp [hy])
  exact ⟨x :: L, by rw [List.flatten_cons, e1]; rfl, by simp [e2], fun y hy => by
   rcases List.mem_cons.1 hy with rfl | hy
   ·exact hx
   ·exact hL y hy⟩
theorem ok_list {l : List V} (h : (Ty.sl tyLn).ok l) : ∃ L : List Ln, l = [linV L] ∧ LnA L := by
 obtain ⟨ls, rfl, hl, hx⟩ := h
 obtain ⟨L, e1, e2, hL⟩ := ok_lns hx
 refine ⟨L, by rw [e1, e2], ?_, hL⟩
 rw [← e2]; unfold maxLen at hl; omega
abbrev tyBd : Ty := .cons (.sl tyLn) (.cons (.sl tyLn) (.cons (.sl tyLn) (.cons (.sl tyLn) (.nil))))
theorem okArg_brd {x : V} (h : tyBd.okArg x) : ∃ b : Brd, x = bdV b ∧ LnA b.d ∧ LnA b.c ∧ LnA b.a ∧ LnA b.r := by
 obtain ⟨l, rfl, a1, a2, rfl, h1, a3, a4, rfl, h2, a5, a6, rfl, h3, a7, a8, rfl, h4, rfl⟩ := h
 obtain ⟨d, rfl, w1⟩ := ok_list h1
 obtain ⟨e, rfl, w2⟩ := ok_list h2
 obtain ⟨f, rfl, w3⟩ := ok_list h3
 obtain ⟨g, rfl, w4⟩ := ok_list h4
 exact ⟨⟨d, e, f, g⟩, rfl, w1, w2, w3, w4⟩
theorem okArg_cf {x : V} (h : (Ty.cons (.cons (.int .i64) (.cons (.int .i64) (.cons (.int .i64) (.nil)))) (.cons (.int .i64) (.cons (.int .i64) (.cons (.int .i64) (.nil))))).okArg x) : ∃ c : Cf, x = c.v ∧ B64 c.R ∧ B64 c.P ∧ B64 c.G ∧ B64 c.H ∧ B64 c.B ∧ B64 c.K := by
 obtain ⟨l, rfl, a, b, rfl, ⟨a1, a2, rfl, h1, a3, a4, rfl, h2, a5, a6, rfl, h3, rfl⟩, b1, b2, rfl, h4, b3, b4, rfl, h5, b5, b6, rfl, h6, rfl⟩ := h
 obtain ⟨z1, rfl, w1⟩ := ok_i64 h1
 obtain ⟨z2, rfl, w2⟩ := ok_i64 h2
 obtain ⟨z3, rfl, w3⟩ := ok_i64 h3
 obtain ⟨z4, rfl, w4⟩ := ok_i64 h4
 obtain ⟨z5, rfl, w5⟩ := ok_i64 h5
 obtain ⟨z6, rfl, w6⟩ := ok_i64 h6
 exact ⟨⟨z1, z2, z3, z4, z5, z6⟩, rfl, w1, w2, w3, w4, w5, w6⟩
theorem cutS_mem {m : Nat} {l : List Ln} (hl : LnA l) (hm : m ≤ 400) : LnsB (cutS m l) ∧ okL 400 (cutS m l) = true := by
 have hlen := cutS_len m l
 have hmem : ∀ x ∈ cutS m l, x.nums.length ≤ 64 ∧ ∀ n ∈ x.nums, B64 n := fun x hx => by
  unfold cutS at hx
  obtain ⟨y, hy, rfl⟩ := List.mem_map.1 hx
  have := hl.2 y (List.mem_of_mem_take hy)
  exact ⟨by simp [cutL]; omega, fun n hn => this.2 n (List.mem_of_mem_take hn)⟩
 refine ⟨⟨by omega, fun x hx => ⟨by have := (hmem x hx).1; omega, (hmem x hx).2⟩⟩, okL_all (by omega) fun x hx => by have := (hmem x hx).1; omega⟩
theorem cutB_ok {b : Brd} (h : LnA b.d ∧ LnA b.c ∧ LnA b.a ∧ LnA b.r) {m : Nat} (hm : m ≤ 400) : (cutB m b).Ok ∧ (cutB m b).fits 400 = true := by
 obtain ⟨h1, h2, h3, h4⟩ := h
 have a1 := cutS_mem h1 hm
 have a2 := cutS_mem h2 hm
 have a3 := cutS_mem h3 hm
 have a4 := cutS_mem h4 hm
 refine ⟨⟨a1.1, a2.1, a3.1, a4.1⟩, ?_⟩
 simp only [Brd.fits, cutB, a1.2, a2.2, a3.2, a4.2, Bool.and_self]
theorem LnA.at {b : Brd} (h : LnA b.d ∧ LnA b.c ∧ LnA b.a ∧ LnA b.r) : ∀ k, k < 4 → (b.at k).length < 2 ^ 63 ∧ ∀ x ∈ b.at k, x.nums.length < 2 ^ 63
 | 0, _ => ⟨h.1.1, fun x hx => (h.1.2 x hx).1⟩
 | 1, _ => ⟨h.2.1.1, fun x hx => (h.2.1.2 x hx).1⟩
 | 2, _ => ⟨h.2.2.1.1, fun x hx => (h.2.2.1.2 x hx).1⟩
 | 3, _ => ⟨h.2.2.2.1, fun x hx => (h.2.2.2.2 x hx).1⟩
 | k + 4, h => by omega
set_option maxRecDepth 10000 in
theorem k8 (c : Cf) (hw : B64 c.R ∧ B64 c.P ∧ B64 c.G ∧ B64 c.H ∧ B64 c.B ∧ B64 c.K) (b : Brd) (hb : LnA b.d ∧ LnA b.c ∧ LnA b.a ∧ LnA b.r) : PureC Tryz.prog 8 [c.v, bdV b] (fun r => r = .bool true) := by
 have hk := k12 c hw 6 (by omega)
 have c1 : PureC Tryz.prog 13 [bdV b, .int .i64 14] (fun r => r = .tup [bdV (cutB 14 b), bdV (cutB 14 b)]) := k13 b (LnA.at hb) 14 (by omega)
 have hcb := cutB_ok hb (m := 14) (by omega)
 have c2 := fun (x : Cf) (hx : x.Ok) => k34 x hx (cutB 14 b) hcb.1 hcb.2
 have cA := k22
 generalize cutB 14 b = B at c1 c2
 clear hcb hb
 refine pureC_of_wp .x mixed ok8 rfl ?_
 unfold c8
 (try unfold z66)
 rw [rep6]
 dsimp only [argE, Cf.v, cfgV, bdV]
 refine W.run ?_
 refine W.pc0R hk rfl ⟨_, awC, aw_ok, by decide, by decide, rfl⟩ ?_
 rintro r ⟨x, hx, _, _, rfl⟩
 refine ⟨_, rfl, ?_⟩
 have c3 := c2 x hx
 clear c2 hk
 refine W.run ?_
 rfl
def tys8 : List Ty := [.cons (.cons (.int .i64) (.cons (.int .i64) (.cons (.int .i64) (.nil)))) (.cons (.int .i64) (.cons (.int .i64) (.cons (.int .i64) (.nil)))), .cons (.sl (.cons (.int .i64) (.cons (.int .i64) (.cons (.int .i64) (.cons (.sl (.int .i64)) (.nil)))))) (.cons (.sl (.cons (.int .i64) (.cons (.int .i64) (.cons (.int .i64) (.cons (.sl (.int .i64)) (.nil)))))) (.cons (.sl (.cons (.int .i64) (.cons (.int .i64) (.cons (.int .i64) (.cons (.sl (.int .i64)) (.nil)))))) (.cons (.sl (.cons (.int .i64) (.cons (.int .i64) (.cons (.int .i64) (.cons (.sl (.int .i64)) (.nil)))))) (.nil))))]
theorem law8 : ∀ xs, Ty.okArgs tys8 xs → PureC Tryz.prog 8 xs (fun r => r = .bool true) := by
 intro xs h
 obtain ⟨x, l, rfl, hx, h⟩ := okArgs_cons h
 obtain ⟨y, l, rfl, hy, h⟩ := okArgs_cons h
 obtain rfl := okArgs_nil h
 obtain ⟨c, rfl, hc⟩ := okArg_cf hx
 obtain ⟨b, rfl, hb⟩ := okArg_brd hy
 exact k8 c hc b hb
end Go.Dp
