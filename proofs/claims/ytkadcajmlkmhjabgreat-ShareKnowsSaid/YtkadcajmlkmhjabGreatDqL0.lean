import Derived.Test.YtkadcajmlkmhjabGreatDqN3
namespace Go.Dp
open Go.RowKit Go.Proofs
attribute [local irreducible] wp wpOps wpOp1 CallW CallT kSeq kBlk kLoop kReg retP retR kAsg kRound kRf
set_option linter.unusedVariables false
set_option linter.unusedSimpArgs false
/-- six numbers -/
structure I6 where
  a : Int
  b : Int
  c : Int
  d : Int
  e : Int
  f : Int
def B64 (x : Int) : Prop := -9223372036854775808 ≤ x ∧ x < 9223372036854775808
/-- the end of a round of ShareProves -/
def c6t : C :=
 (.seq
                    (.seq
                     (.reg false [⟨0, (some 21), .mv (.c (.int .i64 (0))), 0, none⟩] [2, 4, 7, 8, 9, 21])
                     (.blk 2
                      (.loop [2, 4, 7, 8, 9, 21]
                       (.seq
                        (.seq
                         (.reg false [⟨0, (some 192), .mv (.t 21), 0, none⟩, ⟨1, (some 193), .bin .lss (.t 192) (.c (.int .i64 (2))), 0, none⟩] [2, 4, 7, 8, 9, 21, 193])
                         (.cond (.t 193)
                          (.skip)
                          (.exit 2)))
                        (.seq
                         (.blk 3
                          (.seq
                           (.seq
                            (.reg false [⟨0, (some 22), .mv (.c (.int .i64 (0))), 0, none⟩] [2, 4, 7, 8, 9, 21, 22])
                            (.blk 4
                             (.loop [2, 4, 7, 8, 9, 21, 22]
                              (.seq
                               (.seq
                                (.reg false [⟨0, (some 196), .mv (.t 22), 0, none⟩, ⟨1, (some 197), .bin .lss (.t 196) (.c (.int .i64 (3))), 0, none⟩] [2, 4, 7, 8, 9, 21, 22, 197])
                                (.cond (.t 197)
                                 (.skip)
                                 (.exit 4)))
                               (.seq
                                (.blk 5
                                 (.reg true [⟨0, (some 200), .mv (.t 21), 0, none⟩, ⟨1, (some 201), .mv (.t 22), 0, none⟩, ⟨2, (some 202), .mv (.t 21), 0, none⟩, ⟨3, (some 203), .mv (.t 22), 0, none⟩, ⟨4, (some 204), .iaddr (some 2) 3 (.t 4) (.t 202), 0, none⟩, ⟨5, (some 205), .iaddr (some 3) 1 (.t 204) (.t 203), 0, none⟩, ⟨8, (some 208), .faddr 1 (.t 8), 0, none⟩, ⟨13, (some 213), .iaddr (some 2) 3 (.t 4) (.t 200), 0, none⟩, ⟨6, (some 206), .load none (.t 205), 0, none⟩, ⟨7, (some 207), .cvt .u64 (.t 206), 0, none⟩, ⟨9, (some 209), .load none (.t 208), 0, none⟩, ⟨10, (some 210), .cvt .u64 (.t 209), 0, none⟩, ⟨11, (some 211), .bin .rem (.t 207) (.t 210), 0, none⟩, ⟨12, (some 212), .cvt .i64 (.t 211), 0, none⟩, ⟨14, (some 214), .iaddr (some 3) 1 (.t 213) (.t 201), 0, none⟩, ⟨15, none, .store 1 (.t 214) (.t 212), 0, none⟩] [2, 4, 7, 8, 9, 21, 22]))
                                (.reg false [⟨0, (some 198), .mv (.t 22), 0, none⟩, ⟨1, (some 199), .bin .add (.t 198) (.c (.int .i64 (1))), 0, none⟩, ⟨2, (some 22), .mv (.t 199), 0, none⟩] [2, 4, 7, 8, 9, 21, 22]))))))
                           (.reg true [⟨0, (some 215), .mv (.t 21), 0, none⟩, ⟨2, (some 217), .iaddr (some 2) 3 (.t 4) (.c (.int .i64 (0))), 0, none⟩, ⟨3, (some 218), .iaddr (some 3) 1 (.t 217) (.c (.int .i64 (0))), 0, none⟩, ⟨6, (some 221), .iaddr (some 2) 3 (.t 4) (.t 215), 0, none⟩, ⟨1, (some 216), .load (some 3) (.t 8), 0, none⟩, ⟨4, (some 219), .load none (.t 218), 0, none⟩, ⟨5, (some 220), .call 38 [.t 216, .t 219], 2, none⟩, ⟨7, (some 222), .iaddr (some 3) 1 (.t 221) (.c (.int .i64 (0))), 0, none⟩, ⟨8, none, .store 1 (.t 222) (.t 220), 0, none⟩] [2, 4, 7, 8, 9, 21])))
                         (.reg false [⟨0, (some 194), .mv (.t 21), 0, none⟩, ⟨1, (some 195), .bin .add (.t 194) (.c (.int .i64 (1))), 0, none⟩, ⟨2, (some 21), .mv (.t 195), 0, none⟩] [2, 4, 7, 8, 9, 21]))))))
                    (.seq
                     (.reg true [⟨1, (some 224), .mv (.t 2), 0, none⟩, ⟨2, (some 225), .cvt .u64 (.t 224), 0, none⟩, ⟨3, (some 226), .faddr 1 (.t 8), 0, none⟩, ⟨0, (some 223), .load (some 3) (.t 8), 0, none⟩, ⟨4, (some 227), .load none (.t 226), 0, none⟩, ⟨5, (some 228), .cvt .u64 (.t 227), 0, none⟩, ⟨6, (some 229), .bin .rem (.t 225) (.t 228), 0, none⟩, ⟨7, (some 230), .cvt .i64 (.t 229), 0, none⟩, ⟨8, (some 231), .call 38 [.t 223, .t 230], 2, none⟩, ⟨9, (some 2), .mv (.t 231), 0, none⟩] [2, 4, 7, 8, 9])
                     (.seq
                      (.reg false [⟨0, (some 232), .mv (.t 9), 0, none⟩, ⟨1, (some 233), .bin .eql (.t 232) (.c (.int .i64 (1))), 0, none⟩] [2, 4, 7, 8, 9, 233])
                      (.cond (.t 233)
                       (.seq
                        (.reg false [⟨0, (some 234), .load (some 3) (.t 8), 0, none⟩, ⟨1, (some 235), .iaddr (some 2) 3 (.t 4) (.c (.int .i64 (1))), 0, none⟩, ⟨2, (some 236), .iaddr (some 3) 1 (.t 235) (.c (.int .i64 (1))), 0, none⟩, ⟨3, (some 237), .load none (.t 236), 0, none⟩, ⟨4, (some 238), .iaddr (some 2) 3 (.t 4) (.c (.int .i64 (1))), 0, none⟩, ⟨5, (some 239), .iaddr (some 3) 1 (.t 238) (.c (.int .i64 (2))), 0, none⟩, ⟨6, (some 240), .load none (.t 239), 0, none⟩, ⟨7, (some 241), .iaddr (some 2) 3 (.t 4) (.c (.int .i64 (0))), 0, none⟩, ⟨8, (some 242), .iaddr (some 3) 1 (.t 241) (.c (.int .i64 (1))), 0, none⟩, ⟨9, (some 243), .load none (.t 242), 0, none⟩, ⟨10, (some 244), .call 30 [.t 234, .t 237, .t 240, .t 243], 2, none⟩, ⟨11, (some 23), .alloc [.int .i64 (0), .int .i64 (0), .int .i64 (0)] 3, 0, none⟩, ⟨12, none, .store 3 (.t 23) (.t 244), 0, none⟩] [4, 7, 8, 9, 23])
                        (.seq
                         (.reg false [⟨0, (some 245), .faddr 0 (.t 23), 0, none⟩, ⟨1, (some 246), .load none (.t 245), 0, none⟩, ⟨2, (some 247), .faddr 1 (.t 23), 0, none⟩, ⟨3, (some 248), .load none (.t 247), 0, none⟩, ⟨4, (some 249), .faddr 2 (.t 23), 0, none⟩, ⟨5, (some 250), .load none (.t 249), 0, none⟩, ⟨6, (some 251), .build [.int .i64 (0), .int .i64 (0), .int .i64 (0)] [(0, 1, .t 246), (1, 1, .t 248), (2, 1, .t 250)], 0, none⟩, ⟨7, (some 252), .iaddr (some 2) 3 (.t 4) (.c (.int .i64 (0))), 0, none⟩, ⟨8, none, .store 3 (.t 252) (.t 251), 0, none⟩] [4, 7, 8, 9])
                         (.reg false [⟨0, (some 253), .load (some 3) (.t 8), 0, none⟩, ⟨1, (some 254), .iaddr (some 2) 3 (.t 4) (.c (.int .i64 (1))), 0, none⟩, ⟨2, (some 255), .iaddr (some 3) 1 (.t 254) (.c (.int .i64 (1))), 0, none⟩, ⟨3, (some 256), .load none (.t 255), 0, none⟩, ⟨4, (some 257), .call 38 [.t 253, .t 256], 2, none⟩, ⟨5, (some 2), .mv (.t 257), 0, none⟩] [2, 4, 7, 8, 9])))
                       (.skip)))))

set_option maxRecDepth 10000 in
set_option maxHeartbeats 2000000 in
theorem tail6 {R P G : Int} (hg : GroupI R P G) (key k : Int) (hkey : B64 key) (hk : 0 ≤ k ∧ k < 3) (a b c d e f : Int) (ha : B64 a) (hb : B64 b) (hc : B64 c) (hd : B64 d) (he : B64 e) (hf : B64 f) (j0 : Nat) (v0 : V) (H : Hp) (n : Nat) (hn : 96 ≤ n)
    (hH : HS (Hp.put (Hp.put (Hp.put (fun _ => none) 0 { cells := [.int .i64 a, .int .i64 b, .int .i64 c, .int .i64 d, .int .i64 e, .int .i64 f], sz := 6 }) 56 { cells := [.int .i64 R, .int .i64 P, .int .i64 G], sz := 3 }) 64 { cells := [.int .i64 R, .int .i64 P, .int .i64 G], sz := 3 }) H) (K : Ex → St → Prop)
    (hK : ∀ (key2 : Int) (l : I6) (E2 : Env) (H2 : Hp) (n2 : Nat), B64 key2 → B64 l.a ∧ B64 l.b ∧ B64 l.c ∧ B64 l.d ∧ B64 l.e ∧ B64 l.f → (E2 = [(2, .int .i64 key2), (4, .ptr 0 0 0), (7, .ptr 56 0 0), (8, .ptr 64 0 0), (9, .int .i64 k)] ∨ E2 = [(2, .int .i64 key2), (4, .ptr 0 0 0), (7, .ptr 56 0 0), (8, .ptr 64 0 0), (9, .int .i64 k), (233, .bool false)]) → HS (Hp.put (Hp.put (Hp.put (fun _ => none) 0 { cells := [.int .i64 l.a, .int .i64 l.b, .int .i64 l.c, .int .i64 l.d, .int .i64 l.e, .int .i64 l.f], sz := 6 }) 56 { cells := [.int .i64 R, .int .i64 P, .int .i64 G], sz := 3 }) 64 { cells := [.int .i64 R, .int .i64 P, .int .i64 G], sz := 3 }) H2 → n ≤ n2 → K .nm ⟨E2, H2, n2⟩) :
    wp Tryz.prog Ys.none c6t K ⟨[(2, .int .i64 key), (4, .ptr 0 0 0), (7, .ptr 56 0 0), (8, .ptr 64 0 0), (9, .int .i64 k), (j0, v0)], H, n⟩ := by
  have hR := hg.hR
  have hP := hg.hP
  unfold c6t
  refine W.go ?_
  refine W.lp (fun y : Int × I6 => [(2, .int .i64 key), (4, .ptr 0 0 0), (7, .ptr 56 0 0), (8, .ptr 64 0 0), (9, .int .i64 k), (21, .int .i64 y.1)]) (fun y => Hp.put (Hp.put (Hp.put (fun _ => none) 0 { cells := [.int .i64 y.2.a, .int .i64 y.2.b, .int .i64 y.2.c, .int .i64 y.2.d, .int .i64 y.2.e, .int .i64 y.2.f], sz := 6 }) 56 { cells := [.int .i64 R, .int .i64 P, .int .i64 G], sz := 3 }) 64 { cells := [.int .i64 R, .int .i64 P, .int .i64 G], sz := 3 })
    (fun y => (0 ≤ y.1 ∧ y.1 ≤ 2) ∧ (B64 y.2.a ∧ B64 y.2.b ∧ B64 y.2.c ∧ B64 y.2.d ∧ B64 y.2.e ∧ B64 y.2.f) ∧ (1 ≤ y.1 → (0 ≤ y.2.a ∧ y.2.a < R) ∧ (0 ≤ y.2.b ∧ y.2.b < P) ∧ (0 ≤ y.2.c ∧ y.2.c < P)) ∧ (2 ≤ y.1 → (0 ≤ y.2.d ∧ y.2.d < R) ∧ (0 ≤ y.2.e ∧ y.2.e < P) ∧ (0 ≤ y.2.f ∧ y.2.f < P))) (fun y => (2 - y.1).toNat) (0, ⟨a, b, c, d, e, f⟩) rfl hH ⟨⟨by omega, by omega⟩, ⟨ha, hb, hc, hd, he, hf⟩, fun h => absurd h (by omega), fun h => absurd h (by omega)⟩ ?_
  clear hH ha hb hc hd he hf
  rintro ⟨i, ⟨a, b, c, d, e, f⟩⟩ nx ⟨⟨hi0, hi1⟩, ⟨ha, hb, hc, hd, he, hf⟩, hr0, hr1⟩ hnx
  simp only [B64] at *
  by_cases hi2 : i < 2
  · clear hr1 hK
    have hi3 : i = 0 ∨ i = 1 := by omega
    rcases hi3 with rfl | rfl
    · clear hr0
      refine W.go ?_
      refine W.lp (fun z : Int × Int × Int × Int => [(2, .int .i64 key), (4, .ptr 0 0 0), (7, .ptr 56 0 0), (8, .ptr 64 0 0), (9, .int .i64 k), (21, .int .i64 0), (22, .int .i64 z.1)]) (fun z => Hp.put (Hp.put (Hp.put (fun _ => none) 0 { cells := [.int .i64 z.2.1, .int .i64 z.2.2.1, .int .i64 z.2.2.2, .int .i64 d, .int .i64 e, .int .i64 f], sz := 6 }) 56 { cells := [.int .i64 R, .int .i64 P, .int .i64 G], sz := 3 }) 64 { cells := [.int .i64 R, .int .i64 P, .int .i64 G], sz := 3 })
        (fun z => (0 ≤ z.1 ∧ z.1 ≤ 3) ∧ (B64 z.2.1 ∧ B64 z.2.2.1 ∧ B64 z.2.2.2) ∧ (1 ≤ z.1 → 0 ≤ z.2.1 ∧ z.2.1 < P) ∧ (2 ≤ z.1 → 0 ≤ z.2.2.1 ∧ z.2.2.1 < P) ∧ (3 ≤ z.1 → 0 ≤ z.2.2.2 ∧ z.2.2.2 < P)) (fun z => (3 - z.1).toNat) (0, a, b, c) rfl (HS.refl _) ⟨⟨by omega, by omega⟩, ⟨ha, hb, hc⟩, fun h => absurd h (by omega), fun h => absurd h (by omega), fun h => absurd h (by omega)⟩ ?_
      clear ha hb hc
      rintro ⟨j, a, b, c⟩ nx2 ⟨⟨hj0, hj1⟩, ⟨ha, hb, hc⟩, h1, h2, h3⟩ hnx2
      simp only [B64] at *
      by_cases hj2 : j < 3
      · have e1 : 0 ≤ a % 18446744073709551616 % P ∧ a % 18446744073709551616 % P < P := ⟨Int.emod_nonneg _ (by omega), Int.emod_lt_of_pos _ (by omega)⟩
        have e2 : 0 ≤ b % 18446744073709551616 % P ∧ b % 18446744073709551616 % P < P := ⟨Int.emod_nonneg _ (by omega), Int.emod_lt_of_pos _ (by omega)⟩
        have e3 : 0 ≤ c % 18446744073709551616 % P ∧ c % 18446744073709551616 % P < P := ⟨Int.emod_nonneg _ (by omega), Int.emod_lt_of_pos _ (by omega)⟩
        have hj3 : j = 0 ∨ j = 1 ∨ j = 2 := by omega
        rcases hj3 with rfl | rfl | rfl
        · clear h1 h2 h3
          refine W.go ?_
          refine W.kl (1, _, b, c) rfl (HS.refl _) (by omega) ?_ (by dsimp only; omega)
          simp only [B64]; omega
        · replace h1 := h1 (by omega)
          clear h2 h3
          refine W.go ?_
          refine W.kl (2, a, _, c) rfl (HS.refl _) (by omega) ?_ (by dsimp only; omega)
          simp only [B64]; omega
        · replace h1 := h1 (by omega)
          replace h2 := h2 (by omega)
          clear h3
          refine W.go ?_
          refine W.kl (3, a, b, _) rfl (HS.refl _) (by omega) ?_ (by dsimp only; omega)
          simp only [B64]; omega
      · replace h1 := h1 (by omega)
        replace h2 := h2 (by omega)
        replace h3 := h3 (by omega)
        have hw := pw_small (a := G) hR a.toNat
        have c1 := k38 hg a (by omega) (by omega)
        refine W.go ?_
        refine W.cl c1 ?_
        refine W.go ?_
        refine W.kl (1, ⟨_, b, c, d, e, f⟩) rfl (HS.refl _) (by omega) ?_ (by dsimp only; omega)
        simp only [B64]; omega
    · replace hr0 := hr0 (by omega)
      refine W.go ?_
      refine W.lp (fun z : Int × Int × Int × Int => [(2, .int .i64 key), (4, .ptr 0 0 0), (7, .ptr 56 0 0), (8, .ptr 64 0 0), (9, .int .i64 k), (21, .int .i64 1), (22, .int .i64 z.1)]) (fun z => Hp.put (Hp.put (Hp.put (fun _ => none) 0 { cells := [.int .i64 a, .int .i64 b, .int .i64 c, .int .i64 z.2.1, .int .i64 z.2.2.1, .int .i64 z.2.2.2], sz := 6 }) 56 { cells := [.int .i64 R, .int .i64 P, .int .i64 G], sz := 3 }) 64 { cells := [.int .i64 R, .int .i64 P, .int .i64 G], sz := 3 })
        (fun z => (0 ≤ z.1 ∧ z.1 ≤ 3) ∧ (B64 z.2.1 ∧ B64 z.2.2.1 ∧ B64 z.2.2.2) ∧ (1 ≤ z.1 → 0 ≤ z.2.1 ∧ z.2.1 < P) ∧ (2 ≤ z.1 → 0 ≤ z.2.2.1 ∧ z.2.2.1 < P) ∧ (3 ≤ z.1 → 0 ≤ z.2.2.2 ∧ z.2.2.2 < P)) (fun z => (3 - z.1).toNat) (0, d, e, f) rfl (HS.refl _) ⟨⟨by omega, by omega⟩, ⟨hd, he, hf⟩, fun h => absurd h (by omega), fun h => absurd h (by omega), fun h => absurd h (by omega)⟩ ?_
      clear hd he hf
      rintro ⟨j, d, e, f⟩ nx2 ⟨⟨hj0, hj1⟩, ⟨hd, he, hf⟩, h1, h2, h3⟩ hnx2
      simp only [B64] at *
      by_cases hj2 : j < 3
      · have e1 : 0 ≤ d % 18446744073709551616 % P ∧ d % 18446744073709551616 % P < P := ⟨Int.emod_nonneg _ (by omega), Int.emod_lt_of_pos _ (by omega)⟩
        have e2 : 0 ≤ e % 18446744073709551616 % P ∧ e % 18446744073709551616 % P < P := ⟨Int.emod_nonneg _ (by omega), Int.emod_lt_of_pos _ (by omega)⟩
        have e3 : 0 ≤ f % 18446744073709551616 % P ∧ f % 18446744073709551616 % P < P := ⟨Int.emod_nonneg _ (by omega), Int.emod_lt_of_pos _ (by omega)⟩
        have hj3 : j = 0 ∨ j = 1 ∨ j = 2 := by omega
        rcases hj3 with rfl | rfl | rfl
        · clear h1 h2 h3
          refine W.go ?_
          refine W.kl (1, _, e, f) rfl (HS.refl _) (by omega) ?_ (by dsimp only; omega)
          simp only [B64]; omega
        · replace h1 := h1 (by omega)
          clear h2 h3
          refine W.go ?_
          refine W.kl (2, d, _, f) rfl (HS.refl _) (by omega) ?_ (by dsimp only; omega)
          simp only [B64]; omega
        · replace h1 := h1 (by omega)
          replace h2 := h2 (by omega)
          clear h3
          refine W.go ?_
          refine W.kl (3, d, e, _) rfl (HS.refl _) (by omega) ?_ (by dsimp only; omega)
          simp only [B64]; omega
      · replace h1 := h1 (by omega)
        replace h2 := h2 (by omega)
        replace h3 := h3 (by omega)
        have hw := pw_small (a := G) hR a.toNat
        have c1 := k38 hg a (by omega) (by omega)
        refine W.go ?_
        refine W.cl c1 ?_
        refine W.go ?_
        refine W.kl (2, ⟨a, b, c, _, e, f⟩) rfl (HS.refl _) (by omega) ?_ (by dsimp only; omega)
        simp only [B64]; omega
  · replace hr0 := hr0 (by omega)
    replace hr1 := hr1 (by omega)
    have e4 : 0 ≤ key % 18446744073709551616 % P ∧ key % 18446744073709551616 % P < P := ⟨Int.emod_nonneg _ (by omega), Int.emod_lt_of_pos _ (by omega)⟩
    have c1 := k38 hg (key % 18446744073709551616 % P) e4.1 (by omega)
    have hw := pw_small (a := G) hR (key % 18446744073709551616 % P).toNat
    have hK2 := Hid.mk hK
    clear hK
    by_cases hk1 : k = 1
    · have c2 := k30 hg e f b (by omega)
      have c3 := k38 hg e (by omega) (by omega)
      have hw2 := pw_small (a := G) hR e.toNat
      have hw3 := pw_small (a := G) hR f.toNat
      have hw4 : 0 ≤ (f + b * e) % P ∧ (f + b * e) % P < P := ⟨Int.emod_nonneg _ (by omega), Int.emod_lt_of_pos _ (by omega)⟩
      unfold proveV at c2
      refine W.go ?_
      refine W.cl c1 ?_
      refine W.go ?_
      refine W.cl c2 ?_
      refine W.go ?_
      refine W.cl c3 ?_
      refine W.go ?_
      refine hK2.out _ ⟨G ^ f.toNat % R, b, (f + b * e) % P, d, e, f⟩ _ _ _ ?_ ?_ (.inl rfl) (HS.skip (HS.refl _) ?_ _) ?_
      · first | omega | (dsimp only; omega) | (simp only [B64]; omega)
      · first | omega | (dsimp only; omega) | (simp only [B64]; omega)
      · simp only [Hp.put]; rw [if_neg (by omega), if_neg (by omega), if_neg (by omega)]
      · omega
    · refine W.go ?_
      refine W.cl c1 ?_
      refine W.go ?_
      refine hK2.out _ ⟨a, b, c, d, e, f⟩ _ _ _ ?_ ?_ (.inr rfl) (HS.refl _) ?_
      · first | omega | (dsimp only; omega) | (simp only [B64]; omega)
      · first | omega | (dsimp only; omega) | (simp only [B64]; omega)
      · omega
end Go.Dp
