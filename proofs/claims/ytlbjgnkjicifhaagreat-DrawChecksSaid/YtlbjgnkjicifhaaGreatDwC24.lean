import Derived.Test.YtlbjgnkjicifhaaGreatDwC22
namespace Go.Dp
open Go.RowKit Go.Proofs
set_option linter.unusedVariables false
set_option linter.unusedSimpArgs false

theorem runX_wk {c : Cf} (hc : c.Ok) {polys : List (List Int)} (hp : ∀ q ∈ polys, q.length ≠ 0 → polyE c.P q = 0) (lost : List (Int × Int)) (b : Brd) (k : Nat) : WkL (runX c polys lost b k) := by
  refine (wkL_lines _).app (wkL_post fun x hx => ?_)
  simp only [pollM, List.mem_flatMap] at hx
  obtain ⟨h, _, hx⟩ := hx
  exact ((pollH_ok hc hp lost _ k h).2 x hx).2
theorem map_fst_pair (f : Ln → V) : ∀ l : List Ln, (l.map fun x => (x, f x)).map Prod.fst = l
  | [] => rfl
  | a :: l => by simp only [List.map_cons, map_fst_pair f l]
theorem at_ok {b : Brd} (hb : b.Ok) : ∀ k, LnsB (b.at k)
  | 0 => hb.1
  | 1 => hb.2.1
  | 2 => hb.2.2.1
  | _ + 3 => hb.2.2.2
theorem at_100 {b : Brd} (hf : b.fits 100 = true) (k : Nat) : (b.at k).length ≤ 100 := by
  simp only [Brd.fits, okL, Bool.and_eq_true, decide_eq_true_eq] at hf
  match k with
  | 0 => simp only [Brd.at]; omega
  | 1 => simp only [Brd.at]; omega
  | 2 => simp only [Brd.at]; omega
  | _ + 3 => simp only [Brd.at]; omega
theorem flatMap_le {α β : Type} {f : α → List β} {m : Nat} (h : ∀ a, (f a).length ≤ m) : ∀ l : List α, (l.flatMap f).length ≤ l.length * m
  | [] => by simp
  | a :: l => by
    have := flatMap_le h l
    have := h a
    rw [List.flatMap_cons, List.length_append, List.length_cons, Nat.succ_mul]; omega
/-- the board as it is read in the phase p -/
def phB (c : Cf) (polys : List (List Int)) (lost : List (Int × Int)) (b : Brd) (p : Nat) : Brd := brdOf (runL c polys lost b p ++ [b.at p])
/-- the lines that the first halls post -/
def curX (c : Cf) (polys : List (List Int)) (lost : List (Int × Int)) (b : Brd) (p h : Nat) : List (Ln × V) :=
  (b.at p).map (fun x => (x, slI x.nums)) ++ ((List.range h).flatMap (pollH c polys lost (phB c polys lost b p) p)).map (fun x => (x, nvL x))
theorem curX_0 (c : Cf) (polys : List (List Int)) (lost : List (Int × Int)) (b : Brd) (p : Nat) : curX c polys lost b p 0 = (b.at p).map (fun x => (x, slI x.nums)) := by simp [curX]
theorem curX_succ (c : Cf) (polys : List (List Int)) (lost : List (Int × Int)) (b : Brd) (p h : Nat) : curX c polys lost b p (h + 1) = curX c polys lost b p h ++ (pollH c polys lost (phB c polys lost b p) p h).map (fun x => (x, nvL x)) := by
  simp [curX, List.range_succ]
theorem curX_end (c : Cf) (polys : List (List Int)) (lost : List (Int × Int)) (b : Brd) (p : Nat) : curX c polys lost b p polys.length = runX c polys lost b p := rfl
theorem curX_len {c : Cf} (hc : c.Ok) {polys : List (List Int)} (hp : ∀ q ∈ polys, q.length ≠ 0 → polyE c.P q = 0) (lost : List (Int × Int)) {b : Brd} (hf : b.fits 100 = true) (p h : Nat) : (curX c polys lost b p h).length ≤ 100 + h * 17 := by
  have := flatMap_le (f := pollH c polys lost (phB c polys lost b p) p) (m := 17) (fun k => (pollH_ok hc hp lost _ p k).1) (List.range h)
  have := at_100 hf p
  rw [List.length_range] at *
  simp only [curX, List.length_append, List.length_map]; omega
theorem curX_wk {c : Cf} (hc : c.Ok) {polys : List (List Int)} (hp : ∀ q ∈ polys, q.length ≠ 0 → polyE c.P q = 0) (lost : List (Int × Int)) (b : Brd) (p h : Nat) : WkL (curX c polys lost b p h) := by
  refine (wkL_lines _).app (wkL_post fun x hx => ?_)
  simp only [List.mem_flatMap] at hx
  obtain ⟨h, _, hx⟩ := hx
  exact ((pollH_ok hc hp lost _ p h).2 x hx).2
theorem runX_ok {c : Cf} (hc : c.Ok) {polys : List (List Int)} (hp : ∀ q ∈ polys, q.length ≠ 0 → polyE c.P q = 0) (hn : polys.length ≤ 16) (lost : List (Int × Int)) {b : Brd} (hb : b.Ok) (hf : b.fits 100 = true) (k : Nat) : LnsB ((runX c polys lost b k).map Prod.fst) := by
  refine ⟨?_, fun x hx => ?_⟩
  · rw [List.length_map, ← curX_end]
    have := curX_len hc hp lost hf k polys.length
    omega
  · rw [runX, List.map_append, map_fst_pair, map_fst_pair, List.mem_append] at hx
    rcases hx with hx | hx
    · exact (at_ok hb k).2 x hx
    · simp only [pollM, List.mem_flatMap] at hx
      obtain ⟨h, _, hx⟩ := hx
      exact ((pollH_ok hc hp lost _ k h).2 x hx).1
theorem brdOf_at {l : List (List Ln)} (hl : l.length ≤ 4) : ∀ k, k < 4 → (brdOf l).at k = l.getD k []
  | 0, _ => rfl
  | 1, _ => rfl
  | 2, _ => rfl
  | 3, _ => rfl
  | k + 4, h => by omega
theorem phB_at (c : Cf) (polys : List (List Int)) (lost : List (Int × Int)) (b : Brd) {p k : Nat} (hp : p < 4) (hk : k < 4) : (phB c polys lost b p).at k = if k < p then (runX c polys lost b k).map Prod.fst else if k = p then b.at p else [] := by
  rw [phB, brdOf_at (by rw [List.length_append, runL_len]; simp; omega) k hk, List.getD_eq_getElem?_getD]
  by_cases h : k < p
  · rw [List.getElem?_append_left (by rw [runL_len]; exact h), runL_get c polys lost b p k h, if_pos h]; rfl
  · rw [List.getElem?_append_right (by rw [runL_len]; omega), runL_len, if_neg h]
    by_cases h2 : k = p
    · subst h2; rw [Nat.sub_self, if_pos rfl]; rfl
    · rw [if_neg h2, List.getElem?_eq_none (by simp; omega)]; rfl
theorem Brd.ok_at {b : Brd} (h : ∀ k, k < 4 → LnsB (b.at k)) : b.Ok := ⟨h 0 (by omega), h 1 (by omega), h 2 (by omega), h 3 (by omega)⟩
theorem phB_ok {c : Cf} (hc : c.Ok) {polys : List (List Int)} (hp : ∀ q ∈ polys, q.length ≠ 0 → polyE c.P q = 0) (hn : polys.length ≤ 16) (lost : List (Int × Int)) {b : Brd} (hb : b.Ok) (hf : b.fits 100 = true) {p : Nat} (hp4 : p < 4) : (phB c polys lost b p).Ok := by
  refine Brd.ok_at fun k hk => ?_
  rw [phB_at c polys lost b hp4 hk]
  split
  · exact runX_ok hc hp hn lost hb hf k
  · split
    · exact at_ok hb p
    · exact ⟨by simp, by simp⟩
theorem lists_at {b : Brd} : ∀ {p : Nat} (h : p < [linV b.d, linV b.c, linV b.a, linV b.r].length), [linV b.d, linV b.c, linV b.a, linV b.r][p] = linV (b.at p)
  | 0, _ => rfl
  | 1, _ => rfl
  | 2, _ => rfl
  | 3, _ => rfl
  | p + 4, h => by simp only [List.length_cons, List.length_nil] at h; omega
/-- the board of the phase, frozen, as it is read -/
theorem phB_vw {c : Cf} (hc : c.Ok) {polys : List (List Int)} (hp : ∀ q ∈ polys, q.length ≠ 0 → polyE c.P q = 0) {lost : List (Int × Int)} {b : Brd} {p n : Nat} {xs : List Ent} (hp4 : p < 4) (h : InvE c polys lost b p (curX c polys lost b p 0) xs n) : VW (.agg (xs.map Ent.fv)) (bdV (phB c polys lost b p)) := by
  have hl := h.len
  have hk : ∀ k (hk : k < xs.length), WkL xs[k].X ∧ xs[k].X.map Prod.fst = (phB c polys lost b p).at k := by
    intro k hk
    rw [phB_at c polys lost b hp4 (by omega), h.X k hk]
    split
    · exact ⟨runX_wk hc hp lost b k, rfl⟩
    · split
      · exact ⟨curX_wk hc hp lost b p 0, by rw [curX_0, map_fst_pair]⟩
      · exact ⟨fun p hp => by simp at hp, rfl⟩
  refine VW.agg (VWL.of (by simp [hl]) fun i h1 h2 => ?_)
  rw [List.length_map] at h1
  obtain ⟨w, e⟩ := hk i h1
  have := Ent.fv_vw w (fun h0 => h.nil _ (List.getElem_mem h1) h0)
  rw [e] at this
  rw [List.getElem_map]
  rw [lists_at]
  exact this
theorem InvE.frz {c : Cf} {polys : List (List Int)} {lost : List (Int × Int)} {b : Brd} {p : Nat} {cur : List (Ln × V)} {xs : List Ent} {n : Nat} (h : InvE c polys lost b p cur xs n) : InvE c polys lost b p cur (xs.map Ent.frz) n := by
  have ha : ∀ {l : List Ent}, ApL l → ApL (l.map Ent.frz) := by
    intro l
    induction l with
    | nil => intro _; trivial
    | cons e l ih =>
      intro h
      refine ⟨fun h2 y hy hy2 => ?_, ih h.2⟩
      obtain ⟨z, hz, rfl⟩ := List.mem_map.1 hy
      exact h.1 h2 z hz hy2
  refine ⟨by rw [List.length_map]; exact h.len, ha h.ap, fun e he h2 => ?_, fun e he h2 => ?_, h.n0, fun k hk => ?_⟩
  · obtain ⟨z, hz, rfl⟩ := List.mem_map.1 he
    have := h.ids z hz h2
    refine ⟨this.1, this.2.1, ?_⟩
    simp only [Ent.frz]; omega
  · obtain ⟨z, hz, rfl⟩ := List.mem_map.1 he
    exact h.nil z hz h2
  · rw [List.length_map] at hk
    rw [List.getElem_map, ← h.X k hk]; rfl
theorem cellsE_frz (xs : List Ent) : cellsE (xs.map Ent.frz) = cellsE xs := by
  simp only [cellsE, List.map_map]
  rfl
theorem Ent.fv_vo {e : Ent} (h : WkL e.X) (h0 : e.id = 0 → e.X = []) : VO e.fv (linV (e.X.map Prod.fst)) := by
  unfold Ent.fv
  by_cases hX : e.id = 0
  · rw [if_pos hX, h0 hX, List.map_nil]; exact .nils
  · rw [if_neg hX]
    show VO (.sl (lnsC e.X) e.X.length) (.sl (linC (e.X.map Prod.fst)) (e.X.map Prod.fst).length)
    rw [List.length_map]
    exact VO.sl h.vwl
/-- the board at the end -/
theorem runB_vo {c : Cf} (hc : c.Ok) {polys : List (List Int)} (hp : ∀ q ∈ polys, q.length ≠ 0 → polyE c.P q = 0) {lost : List (Int × Int)} {b : Brd} {n : Nat} {xs : List Ent} (h : InvE c polys lost b 4 [] xs n) : VO (.tup [.agg (xs.map Ent.fv), .int .i64 0]) (.tup [bdV (runB c polys lost b), .int .i64 0]) := by
  have hl := h.len
  have hX := h.X
  have hn := h.nil
  have hb : ∀ k, k < 4 → (runB c polys lost b).at k = (runX c polys lost b k).map Prod.fst := fun k hk => by
    rw [runB, brdOf_at (by rw [runL_len]; omega) k hk, List.getD_eq_getElem?_getD, runL_get c polys lost b 4 k hk]; rfl
  match xs, hl with
  | [e0, e1, e2, e3], _ =>
    have x0 := hX 0 (by simp)
    have x1 := hX 1 (by simp)
    have x2 := hX 2 (by simp)
    have x3 := hX 3 (by simp)
    simp only [List.getElem_cons_zero, List.getElem_cons_succ, Nat.reduceLT, if_true, Nat.zero_lt_succ] at x0 x1 x2 x3
    have b0 : (runB c polys lost b).d = e0.X.map Prod.fst := by rw [x0]; exact hb 0 (by omega)
    have b1 : (runB c polys lost b).c = e1.X.map Prod.fst := by rw [x1]; exact hb 1 (by omega)
    have b2 : (runB c polys lost b).a = e2.X.map Prod.fst := by rw [x2]; exact hb 2 (by omega)
    have b3 : (runB c polys lost b).r = e3.X.map Prod.fst := by rw [x3]; exact hb 3 (by omega)
    have w0 : WkL e0.X := by rw [x0]; exact runX_wk hc hp lost b 0
    have w1 : WkL e1.X := by rw [x1]; exact runX_wk hc hp lost b 1
    have w2 : WkL e2.X := by rw [x2]; exact runX_wk hc hp lost b 2
    have w3 : WkL e3.X := by rw [x3]; exact runX_wk hc hp lost b 3
    have n0 := hn e0 (by simp)
    have n1 := hn e1 (by simp)
    have n2 := hn e2 (by simp)
    have n3 := hn e3 (by simp)
    have hw : VWL [e0.fv, e1.fv, e2.fv, e3.fv] [linV (runB c polys lost b).d, linV (runB c polys lost b).c, linV (runB c polys lost b).a, linV (runB c polys lost b).r] := by
      rw [b0, b1, b2, b3]
      exact .cons (Ent.fv_vw w0 n0) (.cons (Ent.fv_vw w1 n1) (.cons (Ent.fv_vw w2 n2) (.cons (Ent.fv_vw w3 n3) .nil)))
    have ho : VOL [e0.fv, e1.fv, e2.fv, e3.fv] [linV (runB c polys lost b).d, linV (runB c polys lost b).c, linV (runB c polys lost b).a, linV (runB c polys lost b).r] := by
      rw [b0, b1, b2, b3]
      exact .cons (Ent.fv_vo w0 n0) (.cons (Ent.fv_vo w1 n1) (.cons (Ent.fv_vo w2 n2) (.cons (Ent.fv_vo w3 n3) .nil)))
    exact VO.tup (.cons (VO.agg ho hw) (.cons (.refl _) .nil)) (.cons (VW.agg hw) (.cons (.refl _) .nil))
/-- a result that says less, whatever it is -/
theorem PureC.weakE {P : Program} {f : FuncId} {ds : List V} {R : V → Prop} {e' : V} (h : PureC P f ds R) (hw : ∀ r, R r → VO r e') : PureC P f ds (fun r => r = e') :=
  ⟨h.1, fun G w vals hG hd => (h.2 G w vals hG hd).mono fun _ _ ⟨r, x, e1, h1, h2, G', bs, h3, h4, h5, h6, h7⟩ => ⟨e', x, e1, rfl, h2, G', bs, h3, h4, h5, hw r h1 _ _ _ _ _ h6, h7⟩⟩
end Go.Dp
