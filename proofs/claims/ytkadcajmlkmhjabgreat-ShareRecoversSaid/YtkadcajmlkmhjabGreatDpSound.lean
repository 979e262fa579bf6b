/- Each operation over deep values is what the model's does. -/
import Derived.Test.YtkadcajmlkmhjabGreatDpOk
import Derived.Laws.OwnMore
import Derived.Laws.Slices
import Derived.Laws.Build
import Derived.Laws.Pointers
import Derived.WalkSpells
import Derived.Laws.StructEq
namespace Go.Dp
open Go.RowKit

/-- what an operation leaves -/
def OpOut (P : Program) (o : Oper) (a : Act) (w w0 : World) (G : Gm) (σ : Sg) (H' : Hp) (D' : Nat → Prop) (v : V) : Prop :=
  ∃ x w' σ', ((execOp a.eval o).run P w = .ok (.value x) w' ∨ ((execOp a.eval o).run P w = .ok .skip w' ∧ x = undef)) ∧ NC w w' ∧ SExt σ σ' ∧ Rel w0 G σ' H' D' w' ∧ VR G σ' v x

section
variable {P : Program} {o : Oper} {a : Act} {w w0 : World} {G : Gm} {σ : Sg} {H H' : Hp} {D : Nat → Prop} {id : Nat} {rd : Opd → Option V} {v : V}

/-- the operands read as their values -/
def RdR (G : Gm) (σ : Sg) (a : Act) (rd : Opd → Option V) : Prop := ∀ X x, okOpd X x = true → ∀ v, rd x = some v → VR G σ v (a.eval X)

theorem out_same (h : Rel w0 G σ H D w) {x : Value} (hr : (execOp a.eval o).run P w = .ok (.value x) w) (hv : VR G σ v x) :
    OpOut P o a w w0 G σ H (fun o => D o ∨ o = id) v :=
  ⟨x, w, σ, .inl hr, NC.refl _, SExt.refl _, h.weaken fun _ => .inl, hv⟩

theorem rdL_vrl (hrd : RdR G σ a rd) : ∀ {X : List Operand} {x : List Opd}, okOpds X x = true → ∀ {l : List V}, rdL rd x = some l → VRL G σ l (X.map a.eval)
  | [], [], _, l, h => by simp [rdL] at h; subst h; exact .nil
  | X :: Xs, x :: xs, hok, l, h => by
    simp [okOpds] at hok
    simp only [rdL, Option.bind_eq_some_iff, Option.map_eq_some_iff] at h
    obtain ⟨v, hv, m, hm, rfl⟩ := h
    exact .cons (hrd X x hok.1 v hv) (rdL_vrl hrd hok.2 hm)
  | [], _ :: _, hok, _, _ => by simp [okOpds] at hok
  | _ :: _, [], hok, _, _ => by simp [okOpds] at hok

/-! inversion -/
theorem VR.int_inv {k : IntKind} {n : Int} {x : Value} (h : VR G σ (.int k n) x) : x = .int k n := by
  cases h with | deep h => cases h; rfl
theorem VR.bool_inv {b : Bool} {x : Value} (h : VR G σ (.bool b) x) : x = .bool b := by
  cases h with | deep h => cases h; rfl
theorem VR.str_inv {s : ByteArray} {x : Value} (h : VR G σ (.str s) x) : x = .string s := by
  cases h with | deep h => cases h; rfl
theorem VR.agg_inv {l : List V} {x : Value} (h : VR G σ (.agg l) x) : ∃ vs, x = .agg vs.toArray ∧ VRL G σ l vs ∧ Ones vs := by
  cases h with
  | deep h => cases h with | agg h h1 => exact ⟨_, rfl, h.vrl, h1⟩
  | agg h h1 => exact ⟨_, rfl, h, h1⟩
theorem VR.tup_inv {l : List V} {x : Value} (h : VR G σ (.tup l) x) : ∃ vs, x = .tuple vs.toArray ∧ VRL G σ l vs := by
  cases h with
  | deep h => cases h with | tup h => exact ⟨_, rfl, h.vrl⟩
  | tup h => exact ⟨_, rfl, h⟩
theorem VR.cellsOf {v : V} {x : Value} {cs : List V} (h : VR G σ v x) (hc : v.cellsOf = some cs) : VRL G σ cs x.cells.toList ∧ Ones x.cells.toList := by
  have one : ∀ (_ : cs = [v]) (_ : x.cells = #[x]) (_ : x.oneCell' = true), VRL G σ cs x.cells.toList ∧ Ones x.cells.toList := fun e e1 e2 => by
    rw [e1, e]; exact ⟨.cons h .nil, fun y hy => by simp at hy; subst hy; exact e2⟩
  cases v with
  | agg l => obtain ⟨vs, rfl, hl, h1⟩ := h.agg_inv; simp [V.cellsOf] at hc; subst hc; exact ⟨by simpa [Value.cells] using hl, by simpa [Value.cells] using h1⟩
  | tup l => simp [V.cellsOf] at hc
  | _ =>
    simp [V.cellsOf] at hc
    refine one hc.symm ?_ ?_
    all_goals
      cases h with
      | deep h => cases h <;> rfl
      | _ => rfl

theorem s_mv {X : Operand} {x : Opd} (ho : o.op = .move X ∨ o.op = .assign X) (hrd : RdR G σ a rd) (hok : okOpd X x = true) (hrel : Rel w0 G σ H D w)
    (hst : stepOp (.mv x) rd H id = some (v, H')) : OpOut P o a w w0 G σ H' (fun o => D o ∨ o = id) v := by
  simp only [stepOp, Option.map_eq_some_iff] at hst
  obtain ⟨u, hu, e⟩ := hst
  cases e
  refine out_same hrel (x := a.eval X) ?_ (hrd X x hok _ hu)
  rcases ho with ho | ho <;> simp [execOp, ho]

theorem s_pick {C A B : Operand} {c x y : Opd} (ho : o.op = .pick C A B) (hrd : RdR G σ a rd) (h1 : okOpd C c = true) (h2 : okOpd A x = true) (h3 : okOpd B y = true) (hrel : Rel w0 G σ H D w)
    (hst : stepOp (.pick c x y) rd H id = some (v, H')) : OpOut P o a w w0 G σ H' (fun o => D o ∨ o = id) v := by
  simp only [stepOp, Option.map_eq_some_iff, Option.bind_eq_some_iff] at hst
  obtain ⟨t, ⟨cv, hc, hb⟩, u, hu, e⟩ := hst
  cases e
  have hcv := hrd C c h1 _ hc
  cases cv <;> simp [asB] at hb
  subst hb
  have e := hcv.bool_inv
  rename_i t
  refine out_same hrel (x := if t then a.eval A else a.eval B) ?_ ?_
  · simp [execOp, ho, e, asBool]
  · cases t with
    | true => simp at hu; exact hrd A x h2 _ hu
    | false => simp at hu; exact hrd B y h3 _ hu

/-- the value of a scalar -/
def V.scal : V → Value
  | .bool b => .bool b
  | .int k n => .int k n
  | _ => Go.undef

theorem run_exec_bin {b : BinOp} {t u : TypeId} {X Y : Operand} (ho : o.op = .binOp b t X Y u) :
    (execOp a.eval o).run P w = ((eqGuard b t X Y (a.eval X) (a.eval Y)).run P w).andThen fun _ w' => ((binOp b t (a.eval X) (a.eval Y)).run P w').andThen fun v w'' => .ok (.value v) w'' := by
  unfold execOp; simp only [ho, Sem.run_bind, Sem.run_pure]
  cases (eqGuard b t X Y (a.eval X) (a.eval Y)).run P w <;> rfl

theorem vint_sound {b : BinOp} {t : TypeId} {k : IntKind} {m n : Int} {r : V} (h : vint b k m n = some r) (h1 : b ≠ .shl) (h2 : b ≠ .shr) : (binOp b t (.int k m) (.int k n)).run P w = .ok r.scal w ∧ DR G r r.scal := by
  unfold vint at h
  split at h
  all_goals first
    | (cases h; exact ⟨by simp only [binOp, ne_eq, not_true_eq_false, if_false]; rfl, .int _ _⟩)
    | (cases h; exact ⟨by simp only [binOp, ne_eq, not_true_eq_false, if_false]; rfl, .bool _⟩)
    | (split at h
       · cases h
       · rename_i hn; cases h; exact ⟨by simp only [binOp, ne_eq, not_true_eq_false, if_false, Op.intDiv, hn]; rfl, .int _ _⟩)
    | cases h

theorem vshift_sound {b : BinOp} {t : TypeId} {k k' : IntKind} {m n : Int} {r : V} (h : vshift b k m n = some r) : (binOp b t (.int k m) (.int k' n)).run P w = .ok r.scal w ∧ DR G r r.scal := by
  unfold vshift at h
  split at h
  · split at h
    · cases h
    · rename_i hn; cases h; exact ⟨by simp [binOp, Op.shift, V.scal, hn], .int _ _⟩
  · split at h
    · cases h
    · rename_i hn; cases h; exact ⟨by simp [binOp, Op.shift, V.scal, hn], .int _ _⟩
  · cases h

theorem s_bin {b : BinOp} {t u : TypeId} {X Y : Operand} {x y : Opd} (ho : o.op = .binOp b t X Y u) (hrd : RdR G σ a rd) (h1 : okOpd X x = true) (h2 : okOpd Y y = true) (hrel : Rel w0 G σ H D w)
    (hst : stepOp (.bin b x y) rd H id = some (v, H')) : OpOut P o a w w0 G σ H' (fun o => D o ∨ o = id) v := by
  simp only [stepOp, Option.map_eq_some_iff, Option.bind_eq_some_iff] at hst
  obtain ⟨p, hp, q, hq, r, hr, e⟩ := hst
  cases e
  have e1 := hrd X x h1 _ hp
  have e2 := hrd Y y h2 _ hq
  unfold vbin at hr
  split at hr
  · rename_i k m k' n
    have f1 := e1.int_inv
    have f2 := e2.int_inv
    have hgd : (eqGuard b t X Y (.int k m) (.int k' n)).run P w = .ok () w := by
      unfold eqGuard
      cases b <;> rfl
    have key : (binOp b t (.int k m) (.int k' n)).run P w = .ok v.scal w ∧ DR G v v.scal := by
      split at hr
      · exact vshift_sound hr
      · rename_i hs
        split at hr
        · rename_i hk; subst hk; exact vint_sound hr (fun e => hs (.inl e)) (fun e => hs (.inr e))
        · cases hr
    refine out_same hrel (x := v.scal) ?_ (.deep key.2)
    rw [run_exec_bin ho, f1, f2, hgd, Result.andThen_ok, key.1, Result.andThen_ok]
  · cases hr

theorem s_eqb {b : BinOp} {t u : TypeId} {X Y : Operand} {x y : Opd} {neg : Bool} (ho : o.op = .binOp b t X Y u) (hb : eqneg b neg = true) (hrd : RdR G σ a rd)
    (h1 : okOpd X x = true) (h2 : okOpd Y y = true) (ht : P.underlying t = some .bool) (hrel : Rel w0 G σ H D w)
    (hst : stepOp (.eqb neg x y) rd H id = some (v, H')) : OpOut P o a w w0 G σ H' (fun o => D o ∨ o = id) v := by
  simp only [stepOp, Option.map_eq_some_iff, Option.bind_eq_some_iff] at hst
  obtain ⟨p, ⟨pv, hp, hp2⟩, q, ⟨qv, hq, hq2⟩, e⟩ := hst
  cases e
  have e1 := hrd X x h1 _ hp
  have e2 := hrd Y y h2 _ hq
  cases pv <;> simp [asB] at hp2
  cases qv <;> simp [asB] at hq2
  subst hp2; subst hq2
  have f1 := e1.bool_inv
  have f2 := e2.bool_inv
  rename_i p q
  have hgd : (eqGuard b t X Y (.bool p) (.bool q)).run P w = .ok () w := by unfold eqGuard; cases b <;> rfl
  have hq : (Op.equal t (.bool p) (.bool q)).run P w = .ok (p == q) w := by
    unfold Op.equal Op.maxDepth
    exact run_equalIn_bool w 9999 t p q ht
  refine out_same hrel (x := .bool ((p == q) != neg)) ?_ (.deep (.bool _))
  rw [run_exec_bin ho, f1, f2, hgd, Result.andThen_ok]
  unfold eqneg at hb; split at hb
  · rw [show binOp .eql t (.bool p) (.bool q) = (Op.equal t (.bool p) (.bool q) >>= fun b => pure (.bool b)) from rfl, Sem.run_bind, hq]
    simp only [Result.andThen_ok, Sem.run_pure]
    cases p <;> cases q <;> rfl
  · rw [show binOp .neq t (.bool p) (.bool q) = (Op.equal t (.bool p) (.bool q) >>= fun b => pure (.bool !b)) from rfl, Sem.run_bind, hq]
    simp only [Result.andThen_ok, Sem.run_pure]
    cases p <;> cases q <;> rfl
  · cases hb

theorem run_exec_un {u : UnOp} {t : TypeId} {X : Operand} (ho : o.op = .unOp u t X) :
    (execOp a.eval o).run P w = ((Op.unary u (a.eval X)).run P w).andThen fun v w' => .ok (.value v) w' := by
  unfold execOp; simp only [ho, Sem.run_bind, Sem.run_pure]

theorem s_un {u : UnOp} {t : TypeId} {X : Operand} {x : Opd} (ho : o.op = .unOp u t X) (hrd : RdR G σ a rd) (h1 : okOpd X x = true) (hrel : Rel w0 G σ H D w)
    (hst : stepOp (.un u x) rd H id = some (v, H')) : OpOut P o a w w0 G σ H' (fun o => D o ∨ o = id) v := by
  simp only [stepOp, Option.map_eq_some_iff, Option.bind_eq_some_iff] at hst
  obtain ⟨r, ⟨p, hp, hr⟩, e⟩ := hst
  cases e
  have e1 := hrd X x h1 _ hp
  unfold unV at hr
  split at hr
  · have f1 := e1.int_inv
    cases hr
    refine out_same hrel (x := .int _ _) ?_ (.deep (.int _ _))
    rw [run_exec_un ho, f1]; rfl
  · have f1 := e1.bool_inv
    cases hr
    refine out_same hrel (x := .bool _) ?_ (.deep (.bool _))
    rw [run_exec_un ho, f1]; rfl
  · have f1 := e1.int_inv
    simp only [vint, Option.some.injEq] at hr
    subst hr
    refine out_same hrel (x := .int _ _) ?_ (.deep (.int _ _))
    rw [run_exec_un ho, f1]; rfl
  · cases hr

theorem s_cvt {s d : TypeId} {k : IntKind} {X : Operand} {x : Opd} (ho : o.op = .convert s d X) (hrd : RdR G σ a rd) (h1 : okOpd X x = true) (hs : intT P s = true) (hd : P.underlying d = some (.int k)) (hrel : Rel w0 G σ H D w)
    (hst : stepOp (.cvt k x) rd H id = some (v, H')) : OpOut P o a w w0 G σ H' (fun o => D o ∨ o = id) v := by
  simp only [stepOp, Option.map_eq_some_iff, Option.bind_eq_some_iff] at hst
  obtain ⟨r, ⟨p, hp, hr⟩, e⟩ := hst
  cases e
  have e1 := hrd X x h1 _ hp
  cases p <;> simp [cvtV] at hr
  have f1 := e1.int_inv
  subst hr
  unfold intT at hs
  split at hs <;> simp at hs
  rename_i k2 hs2
  exact out_same hrel (by simp [execOp, ho, f1, convert, run_underlying hs2, run_underlying hd, Conv.intToInt]) (.deep (.int _ _))

theorem s_mkif {t : TypeId} {X : Operand} {x : Opd} (ho : o.op = .makeInterface t X) (hrd : RdR G σ a rd) (h1 : okOpd X x = true) (ht : concreteT P t = true) (hrel : Rel w0 G σ H D w)
    (hst : stepOp (.mkif t x) rd H id = some (v, H')) : OpOut P o a w w0 G σ H' (fun o => D o ∨ o = id) v := by
  simp only [stepOp, Option.map_eq_some_iff] at hst
  obtain ⟨p, hp, e⟩ := hst
  cases e
  have e1 := hrd X x h1 _ hp
  unfold concreteT at ht
  cases hu : P.underlying t with
  | none => simp [hu] at ht
  | some d =>
    refine out_same hrel (x := .iface t (a.eval X)) ?_ (.ifc e1)
    cases d <;> simp [hu] at ht <;> simp [execOp, ho, Instr.makeInterface, run_underlying hu]

theorem s_mkfn {fn : Fn} {F C : Array Operand} {f c : List Opd} (ho : o.op = .makeFunc fn F C) (hrd : RdR G σ a rd) (h1 : okOpds F.toList f = true) (h2 : okOpds C.toList c = true) (hrel : Rel w0 G σ H D w)
    (hst : stepOp (.mkfn fn f c) rd H id = some (v, H')) : OpOut P o a w w0 G σ H' (fun o => D o ∨ o = id) v := by
  simp only [stepOp, Option.map_eq_some_iff, Option.bind_eq_some_iff] at hst
  obtain ⟨p, hp, q, hq, e⟩ := hst
  cases e
  have e1 := rdL_vrl hrd h1 hp
  have e2 := rdL_vrl hrd h2 hq
  have := VR.clo (fn := fn) e1 e2
  refine out_same hrel (x := .func fn (F.map a.eval) (C.map a.eval)) ?_ (by rw [← List.map_toArray, ← List.map_toArray] at this; simpa using this)
  simp [execOp, ho, Instr.makeFunc]

theorem s_nilc {X : Operand} {x : Opd} (ho : o.op = .nilCheck X) (hrd : RdR G σ a rd) (h1 : okOpd X x = true) (hrel : Rel w0 G σ H D w)
    (hst : stepOp (.nilc x) rd H id = some (v, H')) : OpOut P o a w w0 G σ H' (fun o => D o ∨ o = id) v := by
  simp only [stepOp, Option.map_eq_some_iff, Option.bind_eq_some_iff] at hst
  obtain ⟨r, ⟨p, hp, hr⟩, e⟩ := hst
  cases e
  have e1 := hrd X x h1 _ hp
  refine out_same hrel (x := a.eval X) ?_ ?_
  · unfold nilcV at hr
    split at hr <;> simp at hr
    · cases hx : a.eval X <;> rw [hx] at e1 <;> cases e1 <;> rename_i h <;> cases h <;> simp [execOp, ho, hx]
    · generalize hx : a.eval X = z at e1
      cases e1 with
      | ptr hs => simp [execOp, ho, hx]
      | deep h => cases h
    · generalize hx : a.eval X = z at e1
      cases e1 with
      | clo => simp [execOp, ho, hx]
      | deep h => cases h; simp [execOp, ho, hx]
    · generalize hx : a.eval X = z at e1
      cases e1 with
      | ifc => simp [execOp, ho, hx]
      | deep h => cases h; simp [execOp, ho, hx]
  · unfold nilcV at hr
    split at hr <;> simp at hr <;> subst hr <;> exact e1

end
end Go.Dp
