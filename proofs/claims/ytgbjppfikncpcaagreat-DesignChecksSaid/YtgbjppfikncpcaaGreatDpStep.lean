/- One operation that calls nothing: sound. -/
import Derived.Test.YtgbjppfikncpcaaGreatDpMem4
namespace Go.Dp
open Go.RowKit
set_option linter.unusedSimpArgs false
section
variable {P:Program} {o:Oper} {a:Act} {w w0:World} {G:Gm} {σ:Sg} {H H':Hp} {D:Nat→Prop} {id:Nat} {rd:Opd→Option V} {v:V}
inductive NilK:Nat→Value→Value→Bool→Prop
 | p (x:Option Addr):NilK 0 (.pointer x) (.pointer none) x.isNone
 | s (x:Option Addr) (n c:Nat):NilK 1 (.slice x n c) (.slice none 0 0) x.isNone
 | m (x:Option Nat):NilK 2 (.map x) (.map none) x.isNone
 | f0:NilK 3 .nilFunc .nilFunc true
 | f1 (fn:Fn) (x y:Array Value):NilK 3 (.func fn x y) .nilFunc false
 | i0:NilK 4 .nilIface .nilIface true
 | i1 (t:TypeId) (x:Value):NilK 4 (.iface t x) .nilIface false
def nilOf:Nat→Value
 | 0=>.pointer none
 | 1=>.slice none 0 0
 | 2=>.map none
 | 3=>.nilFunc
 | _=>.nilIface
theorem nilLit_inv {kd:Nat} {b:V} {Y:Value} (hb:b.isNilLit kd = true) (h:VR G σ b Y) :
  Y = nilOf kd∧kd≤4:=by
 unfold V.isNilLit at hb
 split at hb <;> simp at hb <;> subst hb <;> cases h with | deep h=>cases h;exact ⟨rfl,by omega⟩
theorem isNil_ref (hrel:Rel w0 G σ H D w) {o' ver off len:Nat} {X:Value} {r:Bool} (hx:VR G σ (.ref o' ver off len) X) (hr:(match H o' with | some ob=>if ob.ver = ver then (match ob.nl with | 0=>some false | 1=>some true | _=>none) else none | none=>none) = some r) :
  ∃ ad n c,X = .slice ad n c∧r = ad.isNone:=by
 split at hr
 ·rename_i ob hob
  split at hr
  ·rename_i hv;subst hv
   rcases hrel.obs _ _ hob with ⟨B,hB,_,hOb⟩ | ⟨hN,_,hnl,_⟩ | ⟨B,hB,_,_,hOb⟩
   rotate_left 2
   ·rw [hOb.nl0] at hr
    cases hr
    cases hx with
    | deep h=>cases h
    | ref=>exact ⟨_,_,_,rfl,rfl⟩
    | ref0 hs=>rw [hB] at hs;cases hs
   ·split at hr
    ·cases hr
     cases hx with
     | deep h=>cases h
     | ref=>exact ⟨_,_,_,rfl,rfl⟩
     | ref0 hs=>rw [hB] at hs;cases hs
    ·rename_i h1;exact absurd h1 hOb.nl
    ·cases hr
   ·split at hr
    ·rename_i h1;exact absurd h1 hnl
    ·cases hr
     cases hx with
     | deep h=>cases h
     | ref hs=>rw [hN] at hs;cases hs
     | ref0 hs=>exact ⟨_,_,_,rfl,rfl⟩
    ·cases hr
  ·cases hr
 ·cases hr
theorem isNil_sound (hrel:Rel w0 G σ H D w) {kd:Nat} {x b:V} {X Y:Value} {r:Bool} (hb:b.isNilLit kd = true) (hY:VR G σ b Y) (hx:VR G σ x X) (hr:x.isNil H kd = some r):NilK kd X Y r:=by
 obtain ⟨rfl,hk⟩:=nilLit_inv hb hY
 clear hb hY
 match kd,hk with
 | 0,_ =>
  unfold V.isNil at hr
  split at hr <;> simp at hr <;> subst hr
  all_goals (cases hx <;> first | exact .p _ | (rename_i h;cases h <;> exact .p _))
 | 1,_ =>
  unfold V.isNil at hr
  split at hr <;> try (simp at hr;done)
  ·simp at hr;subst hr
   cases hx with
   | deep h=>cases h;exact .s _ _ _
  ·simp at hr;subst hr
   cases hx with
   | deep h=>cases h;exact .s _ _ _
  ·simp only [if_true] at hr
   obtain ⟨ad,n,c,rfl,rfl⟩:=isNil_ref hrel hx hr
   exact .s _ _ _
 | 2,_ =>
  unfold V.isNil at hr
  split at hr <;> simp at hr <;> subst hr
  all_goals (cases hx <;> first | exact .m _ | (rename_i h;cases h <;> exact .m _))
 | 3,_ =>
  unfold V.isNil at hr
  split at hr <;> simp at hr <;> subst hr
  all_goals (cases hx <;> first | exact .f1 _ _ _ | (rename_i h;cases h <;> first | exact .f0 | exact .f1 _ _ _))
 | 4,_ =>
  unfold V.isNil at hr
  split at hr <;> simp at hr <;> subst hr
  all_goals (cases hx <;> first | exact .i1 _ _ | (rename_i h;cases h <;> first | exact .i0 | exact .i1 _ _))
theorem run_equalIn_nil (d:Nat) {t:TypeId} {kd:Nat} {y:Operand} {X Y:Value} {r:Bool} (h:NilK kd X Y r) (ht:okNilT P t kd y = true):(Op.equalIn (d+1) t X Y).run P w = .ok r w:=by
 unfold okNilT at ht
 cases hu:P.underlying t with
 | none=>simp [hu] at ht
 | some dd =>
  cases h with
  | p x=>cases dd <;> simp [hu] at ht;cases x <;> simp [Op.equalIn,run_underlying hu]
  | s x n c=>cases dd <;> simp [hu] at ht;cases x <;> simp [Op.equalIn,run_underlying hu]
  | m x=>cases dd <;> simp [hu] at ht;cases x <;> simp [Op.equalIn,run_underlying hu]
  | f0=>cases dd <;> simp [hu] at ht;simp [Op.equalIn,run_underlying hu]
  | f1=>cases dd <;> simp [hu] at ht;simp [Op.equalIn,run_underlying hu]
  | i0=>cases dd <;> simp [hu] at ht;simp [Op.equalIn,run_underlying hu]
  | i1=>cases dd <;> simp [hu] at ht;simp [Op.equalIn,run_underlying hu]
theorem run_eqGuard_nil {b:BinOp} {t:TypeId} {kd:Nat} {xo yo:Operand} {X Y:Value} {r:Bool} (h:NilK kd X Y r) (ht:okNilT P t kd yo = true):(eqGuard b t xo yo X Y).run P w = .ok () w:=by
 unfold eqGuard
 cases h with
 | i0 =>
  have hc:∃ v,yo = .const v:=by
   unfold okNilT at ht
   split at ht <;> first | cases ht | skip
   all_goals first
    | (rename_i h4;cases h4;done)
    | (split at ht <;> first | exact ⟨_,rfl⟩ | cases ht)
  obtain ⟨v,rfl⟩:=hc
  cases b <;> simp
 | _=>cases b <;> simp
theorem run_eqn {b:BinOp} {t u:TypeId} {X Y:Operand} {kd:Nat} {neg r:Bool} (ho:o.op = .binOp b t X Y u) (hb:eqneg b neg = true) (hn:NilK kd (a.eval X) (a.eval Y) r) (ht:okNilT P t kd Y = true) :
  (execOp a.eval o).run P w = .ok (.value (.bool (r != neg))) w:=by
 have hgd:=run_eqGuard_nil (b:=b) (xo:=X) (w:=w) hn ht
 have heq:(Op.equal t (a.eval X) (a.eval Y)).run P w = .ok r w:=by
  unfold Op.equal Op.maxDepth
  exact run_equalIn_nil 9999 hn ht
 rw [run_exec_bin ho,hgd,Result.andThen_ok]
 have key:(binOp b t (a.eval X) (a.eval Y)).run P w = .ok (.bool (r != neg)) w:=by
  generalize a.eval X = XX at hn heq
  generalize a.eval Y = YY at hn heq
  unfold eqneg at hb
  split at hb
  ·have e : binOp .eql t XX YY = (Op.equal t XX YY >>= fun b => pure (.bool b)) := by cases hn <;> rfl
   rw [e,Sem.run_bind,heq]
   simp only [Result.andThen_ok,Sem.run_pure]
   cases r <;> rfl
  ·have e : binOp .neq t XX YY = (Op.equal t XX YY >>= fun b => pure (.bool !b)) := by cases hn <;> rfl
   rw [e,Sem.run_bind,heq]
   simp only [Result.andThen_ok,Sem.run_pure]
   cases r <;> rfl
  ·cases hb
 rw [key];rfl
theorem s_eqn {b:BinOp} {t u:TypeId} {X Y:Operand} {x y:Opd} {kd:Nat} {neg:Bool} (ho:o.op = .binOp b t X Y u) (hb:eqneg b neg = true) (hrd:RdR G σ a rd)
  (h1:okOpd X x = true) (h2:okOpd Y y = true) (ht:okNilT P t kd Y = true) (hrel:Rel w0 G σ H D w)
  (hst:stepOp (.eqn kd neg x y) rd H id = some (v,H')):OpOut P o a w w0 G σ H' (fun o=>D o∨o = id) v:=by
 simp only [stepOp,Option.bind_eq_some_iff] at hst
 obtain ⟨p,hp,q,hq,hst⟩:=hst
 split at hst
 ·rename_i hl
  simp only [Option.map_eq_some_iff] at hst
  obtain ⟨r,hr,e⟩:=hst
  cases e
  exact out_same hrel (x:=.bool (r != neg)) (run_eqn ho hb (isNil_sound hrel hl (hrd Y y h2 _ hq) (hrd X x h1 _ hp) hr) ht) (.deep (.bool _))
 ·cases hst
theorem nil0_of {v:V} {ad:Option Addr} {n c:Nat} (h:VR G σ v (.slice ad n c)) (hn:ad.isNone = true):v.nil0:=by
 cases v <;> try trivial
 rename_i cells len
 cases h with
 | deep h =>
  cases h with
  | sl0=>exact ⟨rfl,rfl⟩
  | sl=>cases hn
theorem slike_inv {v:V} {x:Value} (hs:v.slike = true) (h:VR G σ v x):∃ ad n c,x = .slice ad n c:=by
 cases v <;> simp [V.slike] at hs
 all_goals
  cases h with
  | deep h=>cases h <;> exact ⟨_,_,_,rfl⟩
  | _=>exact ⟨_,_,_,rfl⟩
theorem part_sound {t:TypeId} {n:Option Nat} {cells:List V} {vs:List Value} {off:Nat} (hsh:okShape P t n = true) (hl:VRL G σ cells vs) (hones:Ones vs) (hr:loadV n (cells,off) = some v):∃ x,(part t vs.toArray off).run P w = .ok x w∧VR G σ v x:=by
 cases hd:P.underlying t with
 | none=>simp [okShape,hd] at hsh
 | some d2 =>
  cases n with
  | none =>
   simp only [loadV] at hr
   obtain ⟨y,hy,hv⟩:=hl.get hr
   exact ⟨y,run_part hd hsh hy,hv⟩
  | some k =>
   simp only [loadV] at hr
   split at hr
   ·rename_i hk
    cases hr
    exact ⟨_,run_part hd hsh ⟨by rw [← hl.length];exact hk,rfl⟩,.agg ((hl.drop _).take _) (fun y hy=>hones y (List.mem_of_mem_drop (List.mem_of_mem_take hy)))⟩
   ·cases hr
theorem s_aidx {t:TypeId} {X I:Operand} {x i:Opd} {n:Option Nat} {len sz:Nat} (ho:o.op = .index t X I) (hrd:RdR G σ a rd) (h1:okOpd X x = true) (h2:okOpd I i = true) (hf:okArrV P t n len sz = true) (hrel:Rel w0 G σ H D w)
  (hst:stepOp (.aidx n len sz x i) rd H id = some (v,H')):OpOut P o a w w0 G σ H' (fun o=>D o∨o = id) v:=by
 simp only [stepOp,Option.bind_eq_some_iff] at hst
 obtain ⟨p,hp,z,⟨q,hq,hz⟩,hst⟩:=hst
 split at hst
 ·rename_i hb
  simp only [Option.map_eq_some_iff] at hst
  obtain ⟨r,hr,e⟩:=hst
  cases e
  have e1:=hrd X x h1 _ hp
  have e2:=hrd I i h2 _ hq
  unfold vint? at hz
  split at hz
  ·rename_i k m
   cases hz
   have hI:=e2.int_inv
   unfold fldV at hr
   split at hr
   ·obtain ⟨vs,hX,hl,hones⟩:=e1.agg_inv
    unfold okArrV at hf
    split at hf
    ·rename_i m' e hu
     simp only [Bool.and_eq_true,beq_iff_eq] at hf
     obtain ⟨⟨rfl,hsz⟩,hsh⟩:=hf
     obtain ⟨i',hi',hs'⟩:=sizeIs_some hsz
     obtain ⟨y,hy,hv⟩:=part_sound (w:=w) hsh hl hones hr
     refine out_same hrel (x:=y) ?_ hv
     unfold execOp
     simp only [ho,Instr.index,hX,hI,asIntOf,Sem.run_bind,Sem.run_pure,run_underlying hu,Result.andThen_ok,hb,and_self,if_true,run_sizeOf' hi',hs',hy]
    ·cases hf
   ·cases hr
  ·cases hz
 ·cases hst
theorem s_nilo {X:Operand} {sz:Nat} (ho:o.op = .move X∨o.op = .assign X) (hok:isNilS X = true) (hid:¬ D id) (hrel:Rel w0 G σ H D w) (hst:stepOp (.nilo sz) rd H id = some (v,H')):OpOut P o a w w0 G σ H' (fun o=>D o∨o = id) v:=by
 simp only [stepOp,Option.some.injEq,Prod.mk.injEq] at hst
 obtain ⟨rfl,rfl⟩:=hst
 obtain ⟨σ',hse,hz,_,hR⟩:=hrel.adoptNil hid sz 1 (by omega)
 have hx:a.eval X = .slice none 0 0:=by
  unfold isNilS at hok
  split at hok
  ·rfl
  ·cases hok
 refine ⟨.slice none 0 0,w,σ',.inl ?_,NC.refl _,hse,hR,.ref0 hz⟩
 rcases ho with ho | ho <;> (unfold execOp;simp only [ho,hx];rfl)
theorem step_sound {op:IOp} (hrd:RdR G σ a rd) (hok:okOp P o.op op = true) (hid:¬ D id) (hrel:Rel w0 G σ H D w)
  (hst:stepOp op rd H id = some (v,H')):OpOut P o a w w0 G σ H' (fun o=>D o∨o = id) v:=by
 generalize hop:o.op = oo at hok
 unfold okOp at hok
 split at hok
 case h_1=>exact s_mv (.inl hop) hrd hok hrel hst
 case h_2=>exact s_mv (.inr hop) hrd hok hrel hst
 case h_3=>simp only [Bool.and_eq_true] at hok;exact s_pick hop hrd hok.1.1 hok.1.2 hok.2 hrel hst
 case h_4=>exact s_alloc hop hok hid hrel hst
 case h_5=>exact s_box hop hrd hok hid hrel hst
 case h_6=>exact s_build hop hrd hok hrel hst
 case h_7=>simp only [Bool.and_eq_true,beq_iff_eq] at hok;obtain ⟨rfl,h2⟩:=hok;exact s_bsl hop hrd h2 hid hrel hst
 case h_8=>simp only [Bool.and_eq_true] at hok;exact s_load hop hrd hok.1 hok.2 hrel hst
 case h_9=>simp only [Bool.and_eq_true] at hok;exact s_store hop hrd hok.1.1 hok.1.2 hok.2 hrel hst
 case h_10=>exact s_nilc hop hrd hok hrel hst
 case h_11=>simp only [Bool.and_eq_true,decide_eq_true_eq] at hok;obtain ⟨⟨rfl,h2⟩,h3⟩:=hok;exact s_bin hop hrd h2 h3 hrel hst
 case h_12 =>
  simp only [Bool.and_eq_true] at hok
  obtain ⟨⟨⟨h1,h2⟩,h3⟩,h4⟩:=hok
  split at h4
  ·rename_i hu;exact s_eqb hop h1 hrd h2 h3 hu hrel hst
  ·cases h4
 case h_13 =>
  simp only [Bool.and_eq_true] at hok
  obtain ⟨⟨⟨h1,h2⟩,h3⟩,h4⟩:=hok
  exact s_eqn hop h1 hrd h2 h3 h4 hrel hst
 case h_14=>simp only [Bool.and_eq_true,decide_eq_true_eq] at hok;obtain ⟨rfl,h2⟩:=hok;exact s_un hop hrd h2 hrel hst
 case h_15 =>
  simp only [Bool.and_eq_true] at hok
  obtain ⟨⟨h1,h2⟩,h3⟩:=hok
  split at h3
  ·rename_i hu;simp only [decide_eq_true_eq] at h3;subst h3;exact s_cvt hop hrd h1 h2 hu hrel hst
  ·cases h3
 case h_16=>simp only [Bool.and_eq_true,beq_iff_eq] at hok;obtain ⟨⟨rfl,h2⟩,h3⟩:=hok;exact s_mkif hop hrd h2 h3 hrel hst
 case h_17=>simp only [Bool.and_eq_true,decide_eq_true_eq] at hok;obtain ⟨⟨rfl,h2⟩,h3⟩:=hok;exact s_mkfn hop hrd h2 h3 hrel hst
 case h_18=>simp only [Bool.and_eq_true] at hok;exact s_mksl hop hrd hok.1.1 hok.1.2 hok.2 hid hrel hst
 case h_19=>simp only [Bool.and_eq_true] at hok;exact s_slc hop hrd hok.1.1.1.1 hok.1.1.1.2 hok.1.1.2 hok.1.2 hok.2 hrel hst
 case h_20=>simp only [Bool.and_eq_true] at hok;exact s_faddr hop hrd hok.1 hok.2 hrel hst
 case h_21=>simp only [Bool.and_eq_true] at hok;exact s_fld hop hrd hok.1 hok.2 hrel hst
 case h_22=>simp only [Bool.and_eq_true] at hok;exact s_iaddr hop hrd hok.1.1 hok.1.2 hok.2 hrel hst
 case h_23=>simp only [Bool.and_eq_true,beq_iff_eq] at hok;obtain ⟨rfl,h2⟩:=hok;exact s_ext hop hrd h2 hrel hst
 case h_24 args ats arr x' =>
  obtain ⟨args⟩:=args;obtain ⟨ats⟩:=ats
  split at hok
  ·rename_i e1 e2;simp only at e1 e2;subst e1;subst e2
   simp only [Bool.and_eq_true] at hok;exact s_len hop hrd hok.1 hok.2 hrel hst
  ·cases hok
 case h_25 args ats x' =>
  obtain ⟨args⟩:=args;obtain ⟨ats⟩:=ats
  split at hok
  ·rename_i e1 e2;simp only at e1 e2;subst e1;subst e2
   simp only [Bool.and_eq_true] at hok
   obtain ⟨h1,h2⟩:=hok
   split at h2
   ·rename_i hu;exact s_slen hop hrd h1 hu hrel hst
   ·cases h2
  ·cases hok
 case h_26=>exact s_mn hop hrd hok hrel hst
 case h_27=>exact s_mx hop hrd hok hrel hst
 case h_28 args ats sz bytes s x =>
  obtain ⟨args⟩:=args;obtain ⟨ats⟩:=ats
  split at hok
  ·rename_i e1 e2;simp only at e1 e2;subst e1;subst e2
   simp only [Bool.and_eq_true] at hok;exact s_app hop hrd hok.1.1 hok.1.2 hok.2 hid hrel hst
  ·cases hok
 case h_29 args ats sz d s =>
  obtain ⟨args⟩:=args;obtain ⟨ats⟩:=ats
  split at hok
  ·rename_i e1 e2;simp only at e1 e2;subst e1;subst e2
   simp only [Bool.and_eq_true] at hok;exact s_cpy hop hrd hok.1.1 hok.1.2 hok.2 hrel hst
  ·cases hok
 case h_30=>cases hst
 case h_31=>cases hst
 case h_32=>cases hst
 case h_33=>simp only [Bool.and_eq_true] at hok;exact s_aidx hop hrd hok.1.1 hok.1.2 hok.2 hrel hst
 case h_34=>exact s_nilo (.inl hop) hok hid hrel hst
 case h_35=>exact s_nilo (.inr hop) hok hid hrel hst
 case h_36=>exact step_sound2 hrd (by rw [hop];exact hok) hid hrel hst
end
end Go.Dp
