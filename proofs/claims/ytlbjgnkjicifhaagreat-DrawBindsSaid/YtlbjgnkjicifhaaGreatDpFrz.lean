import Derived.Test.YtlbjgnkjicifhaaGreatDpMem4
namespace Go.Dp
open Go.RowKit
set_option linter.unusedSimpArgs false
section
variable {P:Program} {o:Oper} {a:Act} {w w0:World} {G:Gm} {σ:Sg} {H H':Hp} {D:Nat→Prop} {id:Nat} {rd:Opd→Option V} {v:V}
inductive NilK:Nat→Value→Value→Bool→Prop
 | p (x:Option Addr):NilK 0 (.pointer x) (.pointer none) x.isNone
 | s (x:Option Addr) (n c:Nat):NilK 1 (.slice x n c) (.slice none 0 0) x.isNone
 | m (x:Option Nat):NilK 2 (.map x) (.map none) x.isNone
 | f0:NilK 3 .nilFunc .nilFunc true
 | f1 (fn:Fn) (x y:Array Value):NilK 3 (.func fn x y) .nilFunc false
 | i0:NilK 4 .nilIface .nilIface true
 | i1 (t:TypeId) (x:Value):NilK 4 (.iface t x) .nilIface false
def nilOf:Nat→Value
 | 0=>.pointer none
 | 1=>.slice none 0 0
 | 2=>.map none
 | 3=>.nilFunc
 | _=>.nilIface
theorem nilLit_inv {kd:Nat} {b:V} {Y:Value} (hb:b.isNilLit kd = true) (h:VR G σ b Y) :
  Y = nilOf kd∧kd≤4:=by
 unfold V.isNilLit at hb
 split at hb <;> simp at hb <;> subst hb <;> cases h with | deep h=>cases h;exact ⟨rfl,by omega⟩
theorem isNil_ref (hrel:Rel w0 G σ H D w) {o' ver off len:Nat} {X:Value} {r:Bool} (hx:VR G σ (.ref o' ver off len) X) (hr:(match H o' with | some ob=>if ob.ver = ver then (match ob.nl with | 0=>some false | 1=>some true | _=>none) else none | none=>none) = some r) :
  ∃ ad n c,X = .slice ad n c∧r = ad.isNone:=by
 split at hr
 ·rename_i ob hob
  split at hr
  ·rename_i hv;subst hv
   rcases hrel.obs _ _ hob with ⟨B,hB,_,hOb⟩ | ⟨hN,_,hnl,_⟩ | ⟨B,hB,_,_,hOb⟩
   rotate_left 2
   ·rw [hOb.nl0] at hr
    cases hr
    cases hx with
    | deep h=>cases h
    | ref=>exact ⟨_,_,_,rfl,rfl⟩
    | ref0 hs=>rw [hB] at hs;cases hs
   ·split at hr
    ·cases hr
     cases hx with
     | deep h=>cases h
     | ref=>exact ⟨_,_,_,rfl,rfl⟩
     | ref0 hs=>rw [hB] at hs;cases hs
    ·rename_i h1;exact absurd h1 hOb.nl
    ·cases hr
   ·split at hr
    ·rename_i h1;exact absurd h1 hnl
    ·cases hr
     cases hx with
     | deep h=>cases h
     | ref hs=>rw [hN] at hs;cases hs
     | ref0 hs=>exact ⟨_,_,_,rfl,rfl⟩
    ·cases hr
  ·cases hr
 ·cases hr
theorem isNil_sound (hrel:Rel w0 G σ H D w) {kd:Nat} {x b:V} {X Y:Value} {r:Bool} (hb:b.isNilLit kd = true) (hY:VR G σ b Y) (hx:VR G σ x X) (hr:x.isNil H kd = some r):NilK kd X Y r:=by
 obtain ⟨rfl,hk⟩:=nilLit_inv hb hY
 clear hb hY
 match kd,hk with
 | 0,_ =>
  unfold V.isNil at hr
  split at hr <;> simp at hr <;> subst hr
  all_goals (cases hx <;> first | exact .p _ | (rename_i h;cases h <;> exact .p _))
 | 1,_ =>
  unfold V.isNil at hr
  split at hr <;> try (simp at hr;done)
  ·simp at hr;subst hr
   cases hx with
   | deep h=>cases h;exact .s _ _ _
  ·simp at hr;subst hr
   cases hx with
   | deep h=>cases h;exact .s _ _ _
  ·simp only [if_true] at hr
   obtain ⟨ad,n,c,rfl,rfl⟩:=isNil_ref hrel hx hr
   exact .s _ _ _
 | 2,_ =>
  unfold V.isNil at hr
  split at hr <;> simp at hr <;> subst hr
  all_goals (cases hx <;> first | exact .m _ | (rename_i h;cases h <;> exact .m _))
 | 3,_ =>
  unfold V.isNil at hr
  split at hr <;> simp at hr <;> subst hr
  all_goals (cases hx <;> first | exact .f1 _ _ _ | (rename_i h;cases h <;> first | exact .f0 | exact .f1 _ _ _))
 | 4,_ =>
  unfold V.isNil at hr
  split at hr <;> simp at hr <;> subst hr
  all_goals (cases hx <;> first | exact .i1 _ _ | (rename_i h;cases h <;> first | exact .i0 | exact .i1 _ _))
theorem run_equalIn_nil (d:Nat) {t:TypeId} {kd:Nat} {y:Operand} {X Y:Value} {r:Bool} (h:NilK kd X Y r) (ht:okNilT P t kd y = true):(Op.equalIn (d+1) t X Y).run P w = .ok r w:=by
 unfold okNilT at ht
 cases hu:P.underlying t with
 | none=>simp [hu] at ht
 | some dd =>
  cases h with
  | p x=>cases dd <;> simp [hu] at ht;cases x <;> simp [Op.equalIn,run_underlying hu]
  | s x n c=>cases dd <;> simp [hu] at ht;cases x <;> simp [Op.equalIn,run_underlying hu]
  | m x=>cases dd <;> simp [hu] at ht;cases x <;> simp [Op.equalIn,run_underlying hu]
  | f0=>cases dd <;> simp [hu] at ht;simp [Op.equalIn,run_underlying hu]
  | f1=>cases dd <;> simp [hu] at ht;simp [Op.equalIn,run_underlying hu]
  | i0=>cases dd <;> simp [hu] at ht;simp [Op.equalIn,run_underlying hu]
  | i1=>cases dd <;> simp [hu] at ht;simp [Op.equalIn,run_underlying hu]
theorem run_eqGuard_nil {b:BinOp} {t:TypeId} {kd:Nat} {xo yo:Operand} {X Y:Value} {r:Bool} (h:NilK kd X Y r) (ht:okNilT P t kd yo = true):(eqGuard b t xo yo X Y).run P w = .ok () w:=by
 unfold eqGuard
 cases h with
 | i0 =>
  have hc:∃ v,yo = .const v:=by
   unfold okNilT at ht
   split at ht <;> first | cases ht | skip
   all_goals first
    | (rename_i h4;cases h4;done)
    | (split at ht <;> first | exact ⟨_,rfl⟩ | cases ht)
  obtain ⟨v,rfl⟩:=hc
  cases b <;> simp
 | _=>cases b <;> simp
theorem run_eqn {b:BinOp} {t u:TypeId} {X Y:Operand} {kd:Nat} {neg r:Bool} (ho:o.op = .binOp b t X Y u) (hb:eqneg b neg = true) (hn:NilK kd (a.eval X) (a.eval Y) r) (ht:okNilT P t kd Y = true) :
  (execOp a.eval o).run P w = .ok (.value (.bool (r != neg))) w:=by
 have hgd:=run_eqGuard_nil (b:=b) (xo:=X) (w:=w) hn ht
 have heq:(Op.equal t (a.eval X) (a.eval Y)).run P w = .ok r w:=by
  unfold Op.equal Op.maxDepth
  exact run_equalIn_nil 9999 hn ht
 rw [run_exec_bin ho,hgd,Result.andThen_ok]
 have key:(binOp b t (a.eval X) (a.eval Y)).run P w = .ok (.bool (r != neg)) w:=by
  generalize a.eval X = XX at hn heq
  generalize a.eval Y = YY at hn heq
  unfold eqneg at hb
  split at hb
  ·have e : binOp .eql t XX YY = (Op.equal t XX YY >>= fun b => pure (.bool b)) := by cases hn <;> rfl
   rw [e,Sem.run_bind,heq]
   simp only [Result.andThen_ok,Sem.run_pure]
   cases r <;> rfl
  ·have e : binOp .neq t XX YY = (Op.equal t XX YY >>= fun b => pure (.bool !b)) := by cases hn <;> rfl
   rw [e,Sem.run_bind,heq]
   simp only [Result.andThen_ok,Sem.run_pure]
   cases r <;> rfl
  ·cases hb
 rw [key];rfl
theorem s_eqn {b:BinOp} {t u:TypeId} {X Y:Operand} {x y:Opd} {kd:Nat} {neg:Bool} (ho:o.op = .binOp b t X Y u) (hb:eqneg b neg = true) (hrd:RdR G σ a rd)
  (h1:okOpd X x = true) (h2:okOpd Y y = true) (ht:okNilT P t kd Y = true) (hrel:Rel w0 G σ H D w)
  (hst:stepOp (.eqn kd neg x y) rd H id = some (v,H')):OpOut P o a w w0 G σ H' (fun o=>D o∨o = id) v:=by
 simp only [stepOp,Option.bind_eq_some_iff] at hst
 obtain ⟨p,hp,q,hq,hst⟩:=hst
 split at hst
 ·rename_i hl
  simp only [Option.map_eq_some_iff] at hst
  obtain ⟨r,hr,e⟩:=hst
  cases e
  exact out_same hrel (x:=.bool (r != neg)) (run_eqn ho hb (isNil_sound hrel hl (hrd Y y h2 _ hq) (hrd X x h1 _ hp) hr) ht) (.deep (.bool _))
 ·cases hst
theorem nil0_of {v:V} {ad:Option Addr} {n c:Nat} (h:VR G σ v (.slice ad n c)) (hn:ad.isNone = true):v.nil0:=by
 cases v <;> try trivial
 rename_i cells len
 cases h with
 | deep h =>
  cases h with
  | sl0=>exact ⟨rfl,rfl⟩
  | sl=>cases hn
theorem slike_inv {v:V} {x:Value} (hs:v.slike = true) (h:VR G σ v x):∃ ad n c,x = .slice ad n c:=by
 cases v <;> simp [V.slike] at hs
 all_goals
  cases h with
  | deep h=>cases h <;> exact ⟨_,_,_,rfl⟩
  | _=>exact ⟨_,_,_,rfl⟩
theorem part_sound {t:TypeId} {n:Option Nat} {cells:List V} {vs:List Value} {off:Nat} (hsh:okShape P t n = true) (hl:VRL G σ cells vs) (hones:Ones vs) (hr:loadV n (cells,off) = some v):∃ x,(part t vs.toArray off).run P w = .ok x w∧VR G σ v x:=by
 cases hd:P.underlying t with
 | none=>simp [okShape,hd] at hsh
 | some d2 =>
  cases n with
  | none =>
   simp only [loadV] at hr
   obtain ⟨y,hy,hv⟩:=hl.get hr
   exact ⟨y,run_part hd hsh hy,hv⟩
  | some k =>
   simp only [loadV] at hr
   split at hr
   ·rename_i hk
    cases hr
    exact ⟨_,run_part hd hsh ⟨by rw [← hl.length];exact hk,rfl⟩,.agg ((hl.drop _).take _) (fun y hy=>hones y (List.mem_of_mem_drop (List.mem_of_mem_take hy)))⟩
   ·cases hr
theorem s_aidx {t:TypeId} {X I:Operand} {x i:Opd} {n:Option Nat} {len sz:Nat} (ho:o.op = .index t X I) (hrd:RdR G σ a rd) (h1:okOpd X x = true) (h2:okOpd I i = true) (hf:okArrV P t n len sz = true) (hrel:Rel w0 G σ H D w)
  (hst:stepOp (.aidx n len sz x i) rd H id = some (v,H')):OpOut P o a w w0 G σ H' (fun o=>D o∨o = id) v:=by
 simp only [stepOp,Option.bind_eq_some_iff] at hst
 obtain ⟨p,hp,z,⟨q,hq,hz⟩,hst⟩:=hst
 split at hst
 ·rename_i hb
  simp only [Option.map_eq_some_iff] at hst
  obtain ⟨r,hr,e⟩:=hst
  cases e
  have e1:=hrd X x h1 _ hp
  have e2:=hrd I i h2 _ hq
  unfold vint? at hz
  split at hz
  ·rename_i k m
   cases hz
   have hI:=e2.int_inv
   unfold fldV at hr
   split at hr
   ·obtain ⟨vs,hX,hl,hones⟩:=e1.agg_inv
    unfold okArrV at hf
    split at hf
    ·rename_i m' e hu
     simp only [Bool.and_eq_true,beq_iff_eq] at hf
     obtain ⟨⟨rfl,hsz⟩,hsh⟩:=hf
     obtain ⟨i',hi',hs'⟩:=sizeIs_some hsz
     obtain ⟨y,hy,hv⟩:=part_sound (w:=w) hsh hl hones hr
     refine out_same hrel (x:=y) ?_ hv
     unfold execOp
     simp only [ho,Instr.index,hX,hI,asIntOf,Sem.run_bind,Sem.run_pure,run_underlying hu,Result.andThen_ok,hb,and_self,if_true,run_sizeOf' hi',hs',hy]
    ·cases hf
   ·cases hr
  ·cases hz
 ·cases hst
theorem s_nilo {X:Operand} {sz:Nat} (ho:o.op = .move X∨o.op = .assign X) (hok:isNilS X = true) (hid:¬ D id) (hrel:Rel w0 G σ H D w) (hst:stepOp (.nilo sz) rd H id = some (v,H')):OpOut P o a w w0 G σ H' (fun o=>D o∨o = id) v:=by
 simp only [stepOp,Option.some.injEq,Prod.mk.injEq] at hst
 obtain ⟨rfl,rfl⟩:=hst
 obtain ⟨σ',hse,hz,_,hR⟩:=hrel.adoptNil hid sz 1 (by omega)
 have hx:a.eval X = .slice none 0 0:=by
  unfold isNilS at hok
  split at hok
  ·rfl
  ·cases hok
 refine ⟨.slice none 0 0,w,σ',.inl ?_,NC.refl _,hse,hR,.ref0 hz⟩
 rcases ho with ho | ho <;> (unfold execOp;simp only [ho,hx];rfl)
theorem step_sound {op:IOp} (hrd:RdR G σ a rd) (hok:okOp P o.op op = true) (hid:¬ D id) (hrel:Rel w0 G σ H D w)
  (hst:stepOp op rd H id = some (v,H')):OpOut P o a w w0 G σ H' (fun o=>D o∨o = id) v:=by
 generalize hop:o.op = oo at hok
 unfold okOp at hok
 split at hok
 case h_1=>exact s_mv (.inl hop) hrd hok hrel hst
 case h_2=>exact s_mv (.inr hop) hrd hok hrel hst
 case h_3=>simp only [Bool.and_eq_true] at hok;exact s_pick hop hrd hok.1.1 hok.1.2 hok.2 hrel hst
 case h_4=>exact s_alloc hop hok hid hrel hst
 case h_5=>exact s_box hop hrd hok hid hrel hst
 case h_6=>exact s_build hop hrd hok hrel hst
 case h_7=>simp only [Bool.and_eq_true,beq_iff_eq] at hok;obtain ⟨rfl,h2⟩:=hok;exact s_bsl hop hrd h2 hid hrel hst
 case h_8=>simp only [Bool.and_eq_true] at hok;exact s_load hop hrd hok.1 hok.2 hrel hst
 case h_9=>simp only [Bool.and_eq_true] at hok;exact s_store hop hrd hok.1.1 hok.1.2 hok.2 hrel hst
 case h_10=>exact s_nilc hop hrd hok hrel hst
 case h_11=>simp only [Bool.and_eq_true,decide_eq_true_eq] at hok;obtain ⟨⟨rfl,h2⟩,h3⟩:=hok;exact s_bin hop hrd h2 h3 hrel hst
 case h_12 =>
  simp only [Bool.and_eq_true] at hok
  obtain ⟨⟨⟨h1,h2⟩,h3⟩,h4⟩:=hok
  split at h4
  ·rename_i hu;exact s_eqb hop h1 hrd h2 h3 hu hrel hst
  ·cases h4
 case h_13 =>
  simp only [Bool.and_eq_true] at hok
  obtain ⟨⟨⟨h1,h2⟩,h3⟩,h4⟩:=hok
  exact s_eqn hop h1 hrd h2 h3 h4 hrel hst
 case h_14=>simp only [Bool.and_eq_true,decide_eq_true_eq] at hok;obtain ⟨rfl,h2⟩:=hok;exact s_un hop hrd h2 hrel hst
 case h_15 =>
  simp only [Bool.and_eq_true] at hok
  obtain ⟨⟨h1,h2⟩,h3⟩:=hok
  split at h3
  ·rename_i hu;simp only [decide_eq_true_eq] at h3;subst h3;exact s_cvt hop hrd h1 h2 hu hrel hst
  ·cases h3
 case h_16=>simp only [Bool.and_eq_true,beq_iff_eq] at hok;obtain ⟨⟨rfl,h2⟩,h3⟩:=hok;exact s_mkif hop hrd h2 h3 hrel hst
 case h_17=>simp only [Bool.and_eq_true,decide_eq_true_eq] at hok;obtain ⟨⟨rfl,h2⟩,h3⟩:=hok;exact s_mkfn hop hrd h2 h3 hrel hst
 case h_18=>simp only [Bool.and_eq_true] at hok;exact s_mksl hop hrd hok.1.1 hok.1.2 hok.2 hid hrel hst
 case h_19=>simp only [Bool.and_eq_true] at hok;exact s_slc hop hrd hok.1.1.1.1 hok.1.1.1.2 hok.1.1.2 hok.1.2 hok.2 hrel hst
 case h_20=>simp only [Bool.and_eq_true] at hok;exact s_faddr hop hrd hok.1 hok.2 hrel hst
 case h_21=>simp only [Bool.and_eq_true] at hok;exact s_fld hop hrd hok.1 hok.2 hrel hst
 case h_22=>simp only [Bool.and_eq_true] at hok;exact s_iaddr hop hrd hok.1.1 hok.1.2 hok.2 hrel hst
 case h_23=>simp only [Bool.and_eq_true,beq_iff_eq] at hok;obtain ⟨rfl,h2⟩:=hok;exact s_ext hop hrd h2 hrel hst
 case h_24 args ats arr x' =>
  obtain ⟨args⟩:=args;obtain ⟨ats⟩:=ats
  split at hok
  ·rename_i e1 e2;simp only at e1 e2;subst e1;subst e2
   simp only [Bool.and_eq_true] at hok;exact s_len hop hrd hok.1 hok.2 hrel hst
  ·cases hok
 case h_25 args ats x' =>
  obtain ⟨args⟩:=args;obtain ⟨ats⟩:=ats
  split at hok
  ·rename_i e1 e2;simp only at e1 e2;subst e1;subst e2
   simp only [Bool.and_eq_true] at hok
   obtain ⟨h1,h2⟩:=hok
   split at h2
   ·rename_i hu;exact s_slen hop hrd h1 hu hrel hst
   ·cases h2
  ·cases hok
 case h_26=>exact s_mn hop hrd hok hrel hst
 case h_27=>exact s_mx hop hrd hok hrel hst
 case h_28 args ats sz bytes s x =>
  obtain ⟨args⟩:=args;obtain ⟨ats⟩:=ats
  split at hok
  ·rename_i e1 e2;simp only at e1 e2;subst e1;subst e2
   simp only [Bool.and_eq_true] at hok;exact s_app hop hrd hok.1.1 hok.1.2 hok.2 hid hrel hst
  ·cases hok
 case h_29 args ats sz d s =>
  obtain ⟨args⟩:=args;obtain ⟨ats⟩:=ats
  split at hok
  ·rename_i e1 e2;simp only at e1 e2;subst e1;subst e2
   simp only [Bool.and_eq_true] at hok;exact s_cpy hop hrd hok.1.1 hok.1.2 hok.2 hrel hst
  ·cases hok
 case h_30=>cases hst
 case h_31=>cases hst
 case h_32=>cases hst
 case h_33=>simp only [Bool.and_eq_true] at hok;exact s_aidx hop hrd hok.1.1 hok.1.2 hok.2 hrel hst
 case h_34=>exact s_nilo (.inl hop) hok hid hrel hst
 case h_35=>exact s_nilo (.inr hop) hok hid hrel hst
 case h_36=>exact step_sound2 hrd (by rw [hop];exact hok) hid hrel hst
end
end Go.Dp
namespace Go.Dp
open Go.RowKit
set_option linter.unusedSimpArgs false
def V.atom:V→Bool
 | .bool _ | .int _ _ | .str _ | .nilp | .nils | .nilm | .nilf | .nili | .sl _ _ | .fp _ _=>true
 | _=>false
def mapS (f:V→Hp→Option (V × Hp)):List V→Hp→Option (List V × Hp)
 | [],H=>some ([],H)
 | v::l,H=>(f v H).bind fun r=>(mapS f l r.2).map fun q=>(r.1::q.1,q.2)
def Hp.mark (H:Hp) (o k:Nat):Hp:=match H o with | some ob=>H.put o { ob with fz:=max ob.fz k } | none=>H
def frz:Nat→V→Hp→Option (V × Hp)
 | 0,v,H=>if v.atom then some (v,H) else none
 | n+1,v,H=>match v with
  | .ref o ver off len=>match H o with
   | some ob=>if ob.ver = ver∧off+len * ob.sz≤ob.cells.length∧ob.sp = 0 then (mapS (frz n) ((ob.cells.drop off).take (len * ob.sz)) H).map fun r=>(.sl r.1 len,r.2.mark o (off+len * ob.sz))
     else none
   | none=>none
  | .ptr o ver off=>match H o with
   | some ob=>if ob.ver = ver∧ob.sp = 0 then (mapS (frz n) ob.cells H).map fun r=>(.fp r.1 off,r.2.mark o ob.cells.length) else none
   | none=>none
  | .clo fn f c=>(mapS (frz n) f H).bind fun r=>(mapS (frz n) c r.2).map fun q=>(.clo fn r.1 q.1,q.2)
  | .ifc t v=>(frz n v H).map fun r=>(.ifc t r.1,r.2)
  | .agg l=>(mapS (frz n) l H).map fun r=>(.agg r.1,r.2)
  | .tup l=>(mapS (frz n) l H).map fun r=>(.tup r.1,r.2)
  | v=>if v.atom then some (v,H) else none
def HEx (H H':Hp):Prop:=(∀ o ob,H o = some ob→∃ k,ob.fz≤k∧H' o = some { ob with fz:=k })∧(∀ o ob,H' o = some ob→∃ k,k≤ob.fz∧H o = some { ob with fz:=k })
theorem HEx.refl (H:Hp):HEx H H:=⟨fun _ ob h=>⟨ob.fz,Nat.le_refl _,h⟩,fun _ ob h=>⟨ob.fz,Nat.le_refl _,h⟩⟩
theorem HEx.trans {a b c:Hp} (h:HEx a b) (k:HEx b c):HEx a c :=
 ⟨fun o ob e => by obtain ⟨n, hn, e2⟩ := h.1 o ob e; obtain ⟨m, hm, e3⟩ := k.1 o _ e2; exact ⟨m, Nat.le_trans hn hm, e3⟩,
  fun o ob e=>by obtain ⟨n,hn,e2⟩:=k.2 o ob e;obtain ⟨m,hm,e3⟩:=h.2 o _ e2;exact ⟨m,Nat.le_trans hm hn,e3⟩⟩
theorem HEx.mark (H:Hp) (o k:Nat):HEx H (H.mark o k):=by
 unfold Hp.mark
 cases ho:H o with
 | none=>exact HEx.refl H
 | some ob =>
  refine ⟨fun o' ob' e=>?_,fun o' ob' e=>?_⟩
  ·by_cases h:o' = o
   ·subst h;rw [ho] at e;cases e;exact ⟨max ob.fz k,Nat.le_max_left _ _,by simp [Hp.put]⟩
   ·exact ⟨ob'.fz,Nat.le_refl _,by simp [Hp.put,h,e]⟩
  ·by_cases h:o' = o
   ·subst h;simp [Hp.put] at e;subst e;exact ⟨ob.fz,Nat.le_max_left _ _,by simp [ho]⟩
   ·simp [Hp.put,h] at e;exact ⟨ob'.fz,Nat.le_refl _,e⟩
section
variable {w w0:World} {G:Gm} {σ:Sg} {H H':Hp} {D:Nat→Prop}
theorem Rel.mark (h:Rel w0 G σ H D w) {o:Nat} {ob:Ob} (ho:H o = some ob) {B:Blk} (hB:σ o ob.ver = some (some B)) (lo hi:Nat) :
  ∃ G',GExt G G'∧(∀ b i v,G' b i = some v→G b i = some v∨b = B.b)∧Rel w0 G' σ (H.mark o hi) D w∧∀ i v,lo≤i→i < hi→w.cell? ⟨B.b,i,none⟩ = some v→G' B.b i = some v:=by
 let G':Gm:=fun b i=>if b = B.b∧lo≤i∧i < hi then w.cell? ⟨b,i,none⟩ else G b i
 have hG:GExt G G':=fun b i v e=>by
  by_cases hc:b = B.b∧lo≤i∧i < hi
  ·simp only [G',hc,and_self,if_true];rw [← hc.1];exact h.gok b i v e
  ·simp only [G',hc,if_false];exact e
 have hm:H.mark o hi = H.put o { ob with fz:=max ob.fz hi }:=by unfold Hp.mark;rw [ho]
 have key:∀ o' ob',(H.mark o hi) o' = some ob'→∃ ob2,H o' = some ob2∧ob'.ver = ob2.ver∧ob'.cells = ob2.cells∧ob'.sz = ob2.sz∧(ob'.nl = ob2.nl∧ob'.sp = ob2.sp∧ob'.mp = ob2.mp)∧(ob'.fz = ob2.fz∨(o' = o∧ob2 = ob∧ob'.fz = max ob.fz hi)):=by
  intro o' ob' e
  rw [hm] at e
  by_cases ho':o' = o
  ·subst ho';simp [Hp.put] at e;subst e;exact ⟨ob,ho,rfl,rfl,rfl,⟨rfl,rfl,rfl⟩,.inr ⟨rfl,rfl,rfl⟩⟩
  ·simp [Hp.put,ho'] at e;exact ⟨ob',e,rfl,rfl,rfl,⟨rfl,rfl,rfl⟩,.inl rfl⟩
 refine ⟨G',hG,fun b i v e=>?_,⟨h.old,fun b i v e=>?_,h.dom,fun o' ob' e=>?_,fun o' ob' e=>?_,fun o1 o2 ob1 ob2 B1 B2 e1 e2 s1 s2 hb=>?_,fun o' ob' ver x e hs=>?_⟩,fun i v h1 h2 e=>?_⟩
 ·by_cases hc:b = B.b∧lo≤i∧i < hi
  ·exact .inr hc.1
  ·simp only [G',hc,if_false] at e;exact .inl e
 ·by_cases hc:b = B.b∧lo≤i∧i < hi
  ·simp only [G',hc,and_self,if_true] at e;rw [hc.1];exact e
  ·simp only [G',hc,if_false] at e;exact h.gok _ _ _ e
 ·obtain ⟨ob2,e2,_⟩:=key o' ob' e;exact h.hdom _ _ e2
 ·obtain ⟨ob2,e2,hv,hc,hsz,⟨hn,hsp,hmp⟩,hf⟩:=key o' ob' e
  rcases h.obs _ _ e2 with ⟨B2,hB2,hlo2,hob⟩ | ⟨hN,hc2,hn2,hf2⟩ | ⟨B2,hB2,hB0,hlo2,hob⟩
  rotate_left 2
  ·exact .inr (.inr ⟨B2,by rw [hv];exact hB2,hB0,hlo2,(hob.mono hG (SExt.refl _) rfl).cast hsp (.inl hn) hc hsz hmp⟩)
  ·obtain ⟨c,t,hb,hN,hl,hcl⟩:=hob.blk
   refine .inl ⟨B2,by rw [hv];exact hB2,hlo2,⟨by rw [hn];exact hob.nl,hsp.trans hob.sp,hsz.trans hob.sz,⟨c,t,hb,hN,by rw [hc];exact hl,fun i v hi=>?_⟩,fun i v eg=>?_⟩⟩
   ·rw [hc] at hi
    obtain ⟨x,hx,hr,h1⟩:=hcl i v hi
    exact ⟨x,hx,hr.mono hG (SExt.refl _),h1⟩
   ·by_cases hcc:B2.b = B.b∧lo≤i∧i < hi
    ·have hoo:o' = o:=h.inj _ _ _ _ _ _ e2 ho hB2 hB hcc.1
     subst hoo
     rcases hf with hf | ⟨_,_,hf⟩
     ·have : (H.mark o' hi) o' = some { ob with fz := max ob.fz hi } := by rw [hm]; simp [Hp.put]
      rw [this] at e;cases e
      show i < max ob.fz hi
      omega
     ·rw [hf];omega
    ·simp only [G',hcc,if_false] at eg
     have:=hob.gsep i v eg
     rcases hf with hf | ⟨_,rfl,hf⟩
     ·rw [hf];exact this
     ·rw [hf];omega
  ·rcases hf with hf | ⟨rfl,rfl,_⟩
   ·exact .inr (.inl ⟨by rw [hv];exact hN,hc.trans hc2,by rw [hn];exact hn2,hf.trans hf2⟩)
   ·rw [hB] at hN;cases hN
 ·obtain ⟨a1,b1,c1,_⟩:=key o1 ob1 e1
  obtain ⟨a2,b2,c2,_⟩:=key o2 ob2 e2
  exact h.inj o1 o2 a1 a2 B1 B2 b1 b2 (by rw [← c1];exact s1) (by rw [← c2];exact s2) hb
 ·obtain ⟨ob2,e2,hv,_⟩:=key o' ob' e
  rw [hv];exact h.vers _ _ _ _ e2 hs
 ·simp only [G',h1,h2,and_self,if_true];exact e
theorem atom_dr {v:V} {x:Value} (ha:v.atom = true) (h:VR G σ v x):DR G v x:=by
 cases h with
 | deep h=>exact h
 | _=>simp [V.atom] at ha
def Lives (σ:Sg) (H:Hp) (b:Nat):Prop:=∃ o ob B,H o = some ob∧σ o ob.ver = some (some B)∧B.b = b
def FOut (w0 w:World) (G:Gm) (σ:Sg) (H H':Hp) (D:Nat→Prop) (P:Gm→Prop):Prop :=
 HEx H H'∧∃ G',GExt G G'∧(∀ b i v,G' b i = some v→G b i = some v∨Lives σ H b)∧Rel w0 G' σ H' D w∧P G'
theorem Lives.back {σ:Sg} {H H':Hp} {b:Nat} (h:Lives σ H' b) (hx:HEx H H'):Lives σ H b:=by
 obtain ⟨o,ob,B,ho,hB,hb⟩:=h
 obtain ⟨k,_,e⟩:=hx.2 _ _ ho
 exact ⟨o,_,B,e,hB,hb⟩
theorem mapS_sound {f:V→Hp→Option (V × Hp)} (hf:∀ (v:V) (x:Value) (d:V) (G:Gm) (H H':Hp),f v H = some (d,H')→Rel w0 G σ H D w→VR G σ v x→FOut w0 w G σ H H' D (fun G'=>DR G' d x)) :
  ∀ {l:List V} {vs:List Value} {ds:List V} {G:Gm} {H H':Hp},mapS f l H = some (ds,H')→Rel w0 G σ H D w→VRL G σ l vs→FOut w0 w G σ H H' D (fun G'=>DRL G' ds vs)
 | [],_,ds,G,H,H',h,hrel,.nil=>by
  simp [mapS] at h;obtain ⟨rfl,rfl⟩:=h
  exact ⟨HEx.refl _,G,GExt.refl _,fun b i v e=>.inl e,hrel,.nil⟩
 | v::l,_,ds,G,H,H',h,hrel,.cons hv ht=>by
  simp only [mapS,Option.bind_eq_some_iff,Option.map_eq_some_iff] at h
  obtain ⟨⟨d,H1⟩,h1,⟨ds',H2⟩,h2,e⟩:=h
  cases e
  obtain ⟨hx1,G1,hG1,hn1,hr1,hd1⟩:=hf _ _ _ _ _ _ h1 hrel hv
  obtain ⟨hx2,G2,hG2,hn2,hr2,hd2⟩:=mapS_sound hf h2 hr1 (ht.mono hG1 (SExt.refl _))
  exact ⟨hx1.trans hx2,G2,hG1.trans hG2,fun b i v e=>(hn2 b i v e).elim (fun e=>hn1 b i v e) (fun hl=>.inr (hl.back hx1)),hr2,.cons (hd1.mono hG2) hd2⟩
theorem VR.clo_inv {fn:Fn} {f c:List V} {x:Value} (h:VR G σ (.clo fn f c) x):∃ vf vc,x = .func fn vf.toArray vc.toArray∧VRL G σ f vf∧VRL G σ c vc:=by
 cases h with
 | deep h=>cases h with | clo h1 h2=>exact ⟨_,_,rfl,h1.vrl,h2.vrl⟩
 | clo h1 h2=>exact ⟨_,_,rfl,h1,h2⟩
theorem VR.ifc_inv {t:TypeId} {v:V} {x:Value} (h:VR G σ (.ifc t v) x):∃ y,x = .iface t y∧VR G σ v y:=by
 cases h with
 | deep h=>cases h with | ifc h=>exact ⟨_,rfl,.deep h⟩
 | ifc h=>exact ⟨_,rfl,h⟩
theorem frz_sound:∀ (n:Nat) (v:V) (x:Value) (d:V) (G:Gm) (H H':Hp),frz n v H = some (d,H')→Rel w0 G σ H D w→VR G σ v x→FOut w0 w G σ H H' D (fun G'=>DR G' d x)
 | 0,v,x,d,G,H,H',h,hrel,hv=>by
  simp only [frz] at h
  split at h
  ·rename_i ha;cases h
   exact ⟨HEx.refl _,G,GExt.refl _,fun b i v e=>.inl e,hrel,atom_dr ha hv⟩
  ·cases h
 | n+1,v,x,d,G,H,H',h,hrel,hv=>by
  simp only [frz] at h
  split at h
  ·rename_i o ver off len
   split at h
   ·rename_i ob ho
    split at h
    ·rename_i hc
     obtain ⟨c1,c2,c3⟩:=hc
     subst c1
     simp only [Option.map_eq_some_iff] at h
     obtain ⟨⟨ds,H1⟩,hm,e⟩:=h
     cases e
     rcases hrel.obs _ _ ho with ⟨B,hB,hlo,hOb⟩ | ⟨hN,hcn,hnl,hfz⟩ | ⟨_,_,_,_,hOb⟩
     rotate_left 2
     ·exact absurd c3 hOb.sp
     ·cases hv with
      | deep h=>cases h
      | ref0 hs=>rw [hB] at hs;cases hs
      | ref hs hcc hN =>
       rename_i cap B2
       rw [hB] at hs;cases hs
       obtain ⟨cur,tt,hb,hNN,hll,hcl⟩:=hOb.blk
       obtain ⟨vs,hvs,hones,hread⟩:=cells_list (f:=fun i=>w.cell? ⟨B.b,off+i,none⟩) (l:=(ob.cells.drop off).take (len * ob.sz)) (fun i u hu=>by
        obtain ⟨h1,_⟩:=take_get _ _ _ _ _ hu
        obtain ⟨y,hy,hr,h1'⟩:=hcl _ _ h1
        exact ⟨y,by simp [World.cell?,hb,hy],hr,h1'⟩)
       obtain ⟨hx1,G1,hG1,hn1,hr1,hd1⟩:=mapS_sound (frz_sound n) hm hrel hvs
       obtain ⟨k,hk,ho1⟩:=hx1.1 _ _ ho
       obtain ⟨G2,hG2,hn2,hr2,hread2⟩:=hr1.mark ho1 hB off (off+len * ob.sz)
       refine ⟨hx1.trans (HEx.mark _ _ _),G2,hG1.trans hG2,fun b i v e=>(hn2 b i v e).elim (fun e=>hn1 b i v e) (fun hb=>.inr ⟨_,_,_,ho,hB,hb.symm⟩),hr2,?_⟩
       refine .sl (hd1.mono hG2) (fun i y hy=>?_) hcc hones
       have hlt:i < len * ob.sz:=by
        have h1:=(List.getElem?_eq_some_iff.1 hy).1
        rw [← hvs.length] at h1;simp at h1;omega
       exact hread2 _ _ (by omega) (by omega) (hread i y hy)
     ·cases hv with
      | deep h=>cases h
      | ref hs _ _=>rw [hN] at hs;cases hs
      | ref0 hs =>
       simp only [Nat.zero_mul,List.take_zero,mapS,Option.some.injEq,Prod.mk.injEq] at hm
       obtain ⟨rfl,rfl⟩:=hm
       have hmk:H.mark o (0+0 * ob.sz) = H:=by
        unfold Hp.mark
        simp only [ho]
        funext o'
        simp only [Hp.put]
        split
        ·rename_i he;rw [he,ho]
         simp
        ·rfl
       rw [hmk]
       exact ⟨HEx.refl _,G,GExt.refl _,fun b i v e=>.inl e,hrel,.sl0 _ _⟩
    ·cases h
   ·cases h
  ·rename_i o ver off
   split at h
   ·rename_i ob ho
    split at h
    ·rename_i c1
     obtain ⟨c1,c2⟩:=c1
     simp only [Option.map_eq_some_iff] at h
     obtain ⟨⟨ds,H1⟩,hm,e⟩:=h
     cases e
     obtain ⟨B,hB,hX,hlo,hOb⟩:=ptr_obj hrel hv ho c1 (.inr c2)
     obtain ⟨cur,tt,hb,hNN,hll,hcl⟩:=hOb.blk
     obtain ⟨vs,hvs,hones,hread⟩:=cells_list (f:=fun i=>w.cell? ⟨B.b,i,none⟩) (l:=ob.cells) (fun i u hu=>by
      obtain ⟨y,hy,hr,h1'⟩:=hcl _ _ hu
      exact ⟨y,by simp [World.cell?,hb,hy],hr,h1'⟩)
     obtain ⟨hx1,G1,hG1,hn1,hr1,hd1⟩:=mapS_sound (frz_sound n) hm hrel hvs
     obtain ⟨k,hk,ho1⟩:=hx1.1 _ _ ho
     obtain ⟨G2,hG2,hn2,hr2,hread2⟩:=hr1.mark ho1 hB 0 ob.cells.length
     refine ⟨hx1.trans (HEx.mark _ _ _),G2,hG1.trans hG2,fun b i v e=>(hn2 b i v e).elim (fun e=>hn1 b i v e) (fun hb=>.inr ⟨_,_,_,ho,hB,hb.symm⟩),hr2,?_⟩
     rw [hX]
     have:=DR.fp (G:=G2) (b:=B.b) (o:=0) (off:=off) (hd1.mono hG2) (fun i y hy=>by
      have hlt:i < ob.cells.length:=by
       have h1:=(List.getElem?_eq_some_iff.1 hy).1
       rw [← hvs.length] at h1;exact h1
      rw [Nat.zero_add]
      exact hread2 _ _ (Nat.zero_le _) hlt (hread i y hy)) hones
     simpa using this
    ·cases h
   ·cases h
  ·simp only [Option.bind_eq_some_iff,Option.map_eq_some_iff] at h
   obtain ⟨⟨f',H1⟩,h1,⟨c',H2⟩,h2,e⟩:=h
   cases e
   obtain ⟨vf,vc,rfl,hf,hc⟩:=hv.clo_inv
   obtain ⟨hx1,G1,hG1,hn1,hr1,hd1⟩:=mapS_sound (frz_sound n) h1 hrel hf
   obtain ⟨hx2,G2,hG2,hn2,hr2,hd2⟩:=mapS_sound (frz_sound n) h2 hr1 (hc.mono hG1 (SExt.refl _))
   exact ⟨hx1.trans hx2,G2,hG1.trans hG2,fun b i v e=>(hn2 b i v e).elim (fun e=>hn1 b i v e) (fun hl=>.inr (hl.back hx1)),hr2,.clo (hd1.mono hG2) hd2⟩
  ·simp only [Option.map_eq_some_iff] at h
   obtain ⟨⟨v',H1⟩,h1,e⟩:=h
   cases e
   obtain ⟨y,rfl,hy⟩:=hv.ifc_inv
   obtain ⟨hx1,G1,hG1,hn1,hr1,hd1⟩:=frz_sound n _ _ _ _ _ _ h1 hrel hy
   exact ⟨hx1,G1,hG1,hn1,hr1,.ifc hd1⟩
  ·simp only [Option.map_eq_some_iff] at h
   obtain ⟨⟨l',H1⟩,h1,e⟩:=h
   cases e
   obtain ⟨vs,rfl,hl,hones⟩:=hv.agg_inv
   obtain ⟨hx1,G1,hG1,hn1,hr1,hd1⟩:=mapS_sound (frz_sound n) h1 hrel hl
   exact ⟨hx1,G1,hG1,hn1,hr1,.agg hd1 hones⟩
  ·simp only [Option.map_eq_some_iff] at h
   obtain ⟨⟨l',H1⟩,h1,e⟩:=h
   cases e
   obtain ⟨vs,rfl,hl⟩:=hv.tup_inv
   obtain ⟨hx1,G1,hG1,hn1,hr1,hd1⟩:=mapS_sound (frz_sound n) h1 hrel hl
   exact ⟨hx1,G1,hG1,hn1,hr1,.tup hd1⟩
  ·split at h
   ·rename_i ha;cases h
    exact ⟨HEx.refl _,G,GExt.refl _,fun b i v e=>.inl e,hrel,atom_dr ha hv⟩
   ·cases h
inductive Sh where
 | x
 | s (sz:Nat)
 | l (cells:List Sh)
 deriving Inhabited
def finL (f:Sh→V→Hp→Option (V × Hp)):List Sh→List V→Hp→Option (List V × Hp)
 | _,[],H=>some ([],H)
 | sh,v::l,H=>(f (sh.headD .x) v H).bind fun r=>(finL f sh.tail l r.2).map fun q=>(r.1::q.1,q.2)
def finRef (o len sz:Nat) (cs:List V) (H:Hp):Option (V × Hp) :=
 match H o with
 | some ob=>if ob.fz = 0 then some (.own cs len sz,H.del o) else none
 | none=>none
def fin:Nat→Sh→V→Hp→Option (V × Hp)
 | 0,_,v,H=>frz 0 v H
 | n+1,sh,v,H=>match sh,v with
  | .s sz,.nils=>some (.own [] 0 sz,H)
  | .s sz,.ref o ver off len=>match H o with
   | some ob=>if ob.ver = ver∧ob.sz = sz∧off = 0∧ob.fz = 0∧len * sz≤ob.cells.length∧ob.sp = 0 then (mapS (frz n) (ob.cells.take (len * sz)) H).bind fun r=>finRef o len sz r.1 r.2 else frz (n+1) v H
   | none=>none
  | .l shs,.agg cs=>(finL (fin n) shs cs H).map fun r=>(.agg r.1,r.2)
  | .l shs,.tup cs=>(finL (fin n) shs cs H).map fun r=>(.tup r.1,r.2)
  | _,_=>frz (n+1) v H
mutual
inductive OwnR (G:Gm) (w:World) (lo:Nat):V→Value→List Nat→Prop
 | deep {v:V} {x:Value} (h:DR G v x):OwnR G w lo v x []
 | own0 (sz:Nat):OwnR G w lo (.own [] 0 sz) (.slice none 0 0) []
 | own {cells:List V} {len sz b c:Nat} {arr:Array Value} {t:TypeId} (h1:lo≤b) (h2:w.heap[b]? = some (.cells arr t (0,0))) (h3:∀ o v,G b o≠some v) (h4:len≤c) (h5:c * sz≤arr.size)
   (h6:cells.length≤arr.size) (h7:∀ (i:Nat) (v:V),cells[i]? = some v→∃ x:Value,arr[i]? = some x∧DR G v x∧x.oneCell' = true):OwnR G w lo (.own cells len sz) (.slice (some ⟨b,0,none⟩) len c) [b]
 | agg {cells:List V} {vs:List Value} {bs:List Nat} (h:OwnRL G w lo cells vs bs) (h1:Ones vs):OwnR G w lo (.agg cells) (.agg vs.toArray) bs
 | tup {cells:List V} {vs:List Value} {bs:List Nat} (h:OwnRL G w lo cells vs bs):OwnR G w lo (.tup cells) (.tuple vs.toArray) bs
inductive OwnRL (G:Gm) (w:World) (lo:Nat):List V→List Value→List Nat→Prop
 | nil:OwnRL G w lo [] [] []
 | cons {v:V} {x:Value} {l:List V} {m:List Value} {b1 b2:List Nat} (h:OwnR G w lo v x b1) (t:OwnRL G w lo l m b2):OwnRL G w lo (v::l) (x::m) (b1++b2)
end
def Clear (G G':Gm) (bs:List Nat):Prop:=∀ b∈bs,∀ o v,G' b o = some v→G b o = some v
mutual
theorem OwnR.mono {G G':Gm} {lo:Nat} (hG:GExt G G'):∀ {v:V} {x:Value} {bs:List Nat},Clear G G' bs→OwnR G w lo v x bs→OwnR G' w lo v x bs
 | _,_,_,_,.deep h=>.deep (h.mono hG)
 | _,_,_,_,.own0 sz=>.own0 sz
 | _,_,_,hc,.own h1 h2 h3 h4 h5 h6 h7=>.own h1 h2 (fun o v e=>h3 o v (hc _ (by simp) o v e)) h4 h5 h6 (fun i v e=>let ⟨x,hx,hr,ho⟩:=h7 i v e;⟨x,hx,hr.mono hG,ho⟩)
 | _,_,_,hc,.agg h h1=>.agg (OwnRL.mono hG hc h) h1
 | _,_,_,hc,.tup h=>.tup (OwnRL.mono hG hc h)
theorem OwnRL.mono {G G':Gm} {lo:Nat} (hG:GExt G G'):∀ {v:List V} {x:List Value} {bs:List Nat},Clear G G' bs→OwnRL G w lo v x bs→OwnRL G' w lo v x bs
 | _,_,_,_,.nil=>.nil
 | _,_,_,hc,.cons h t=>.cons (OwnR.mono hG (fun b hb=>hc b (List.mem_append_left _ hb)) h) (OwnRL.mono hG (fun b hb=>hc b (List.mem_append_right _ hb)) t)
end
def Away (σ:Sg) (H:Hp) (bs:List Nat):Prop:=∀ b∈bs,¬ Lives σ H b
def HSub (σ:Sg) (H H':Hp):Prop:=∀ b,Lives σ H' b→Lives σ H b
theorem Rel.del (h:Rel w0 G σ H D w) (o:Nat):Rel w0 G σ (H.del o) D w:=by
 have key:∀ o' ob',(H.del o) o' = some ob'→H o' = some ob':=fun o' ob' e=>by
  unfold Hp.del at e;split at e
  ·cases e
  ·exact e
 exact ⟨h.old,h.gok,h.dom,fun o' ob' e=>h.hdom _ _ (key _ _ e),fun o' ob' e=>h.obs _ _ (key _ _ e),fun o1 o2 ob1 ob2 B1 B2 e1 e2=>h.inj o1 o2 ob1 ob2 B1 B2 (key _ _ e1) (key _ _ e2),fun o' ob' ver x e=>h.vers _ _ _ _ (key _ _ e)⟩
def FinOut (w0 w:World) (G:Gm) (σ:Sg) (H H':Hp) (D:Nat→Prop) (P:Gm→List Nat→Prop):Prop :=
 HSub σ H H'∧∃ G' bs,GExt G G'∧(∀ b i v,G' b i = some v→G b i = some v∨Lives σ H b)∧Rel w0 G' σ H' D w∧(∀ b∈bs,Lives σ H b)∧Away σ H' bs∧bs.Nodup∧P G' bs
theorem FOut.fin {v:V} {x:Value} (h:FOut w0 w G σ H H' D (fun G'=>DR G' v x)):FinOut w0 w G σ H H' D (fun G' bs=>OwnR G' w w0.heap.size v x bs):=by
 obtain ⟨hx,G',hG,hn,hr,hd⟩:=h
 exact ⟨fun b hl=>hl.back hx,G',[],hG,hn,hr,(fun b hb=>by cases hb),(fun b hb=>by cases hb),List.nodup_nil,.deep hd⟩
theorem finL_sound {f:Sh→V→Hp→Option (V × Hp)} (hf:∀ (sh:Sh) (v:V) (x:Value) (d:V) (G:Gm) (H H':Hp),f sh v H = some (d,H')→Rel w0 G σ H D w→VR G σ v x→FinOut w0 w G σ H H' D (fun G' bs=>OwnR G' w w0.heap.size d x bs)) :
  ∀ {shs:List Sh} {l:List V} {vs:List Value} {ds:List V} {G:Gm} {H H':Hp},finL f shs l H = some (ds,H')→Rel w0 G σ H D w→VRL G σ l vs→FinOut w0 w G σ H H' D (fun G' bs=>OwnRL G' w w0.heap.size ds vs bs)
 | shs,[],_,ds,G,H,H',h,hrel,.nil=>by
  simp [finL] at h;obtain ⟨rfl,rfl⟩:=h
  exact ⟨fun _ h=>h,G,[],GExt.refl _,fun b i v e=>.inl e,hrel,(fun b hb=>by cases hb),(fun b hb=>by cases hb),List.nodup_nil,.nil⟩
 | shs,v::l,_,ds,G,H,H',h,hrel,.cons hv ht=>by
  simp only [finL,Option.bind_eq_some_iff,Option.map_eq_some_iff] at h
  obtain ⟨⟨d,H1⟩,h1,⟨ds',H2⟩,h2,e⟩:=h
  cases e
  obtain ⟨hs1,G1,b1,hG1,hn1,hr1,hl1,ha1,hd1,ho1⟩:=hf _ _ _ _ _ _ _ h1 hrel hv
  obtain ⟨hs2,G2,b2,hG2,hn2,hr2,hl2,ha2,hd2,ho2⟩:=finL_sound hf h2 hr1 (ht.mono hG1 (SExt.refl _))
  refine ⟨fun b hb=>hs1 b (hs2 b hb),G2,b1++b2,hG1.trans hG2,fun b i v e=>(hn2 b i v e).elim (fun e=>hn1 b i v e) (fun hl=>.inr (hs1 _ hl)),hr2,?_,?_,?_,.cons (ho1.mono hG2 ?_) ho2⟩
  ·intro b hb
   rcases List.mem_append.1 hb with hb | hb
   ·exact hl1 b hb
   ·exact hs1 b (hl2 b hb)
  ·intro b hb
   rcases List.mem_append.1 hb with hb | hb
   ·exact fun hl=>ha1 b hb (hs2 b hl)
   ·exact ha2 b hb
  ·rw [List.nodup_append]
   exact ⟨hd1,hd2,fun b hb c hc e=>ha1 b hb (e ▸ hl2 c hc)⟩
  ·intro b hb o v e
   rcases hn2 b o v e with e | hl
   ·exact e
   ·exact absurd hl (ha1 b hb)
theorem fin_sound:∀ (n:Nat) (sh:Sh) (v:V) (x:Value) (d:V) (G:Gm) (H H':Hp),fin n sh v H = some (d,H')→Rel w0 G σ H D w→VR G σ v x→FinOut w0 w G σ H H' D (fun G' bs=>OwnR G' w w0.heap.size d x bs)
 | 0,sh,v,x,d,G,H,H',h,hrel,hv=>(frz_sound 0 v x d G H H' h hrel hv).fin
 | n+1,sh,v,x,d,G,H,H',h,hrel,hv=>by
  simp only [fin] at h
  split at h
  ·cases h
   cases hv with
   | deep hd =>
    cases hd
    exact ⟨fun _ h=>h,G,[],GExt.refl _,fun b i v e=>.inl e,hrel,(fun b hb=>by cases hb),(fun b hb=>by cases hb),List.nodup_nil,.own0 _⟩
  ·rename_i sz o ver off len
   split at h
   ·rename_i ob ho
    split at h
    ·rename_i hc
     obtain ⟨c1,c2,c3,c4,c5,c6⟩:=hc
     subst c1;subst c2;subst c3
     simp only [Option.bind_eq_some_iff] at h
     obtain ⟨⟨ds,H1⟩,hm,h⟩:=h
     unfold finRef at h
     simp only at h
     split at h
     ·rename_i ob1 ho1
      split at h
      ·rename_i hf1
       cases h
       rcases hrel.obs _ _ ho with ⟨B,hB,hlo,hOb⟩ | ⟨hN,hcn,hnl,hfz⟩ | ⟨_,_,_,_,hOb⟩
       rotate_left 2
       ·exact absurd c6 hOb.sp
       ·cases hv with
        | deep h=>cases h
        | ref0 hs=>rw [hB] at hs;cases hs
        | ref hs hcc hNN =>
         rename_i cap B2
         rw [hB] at hs;cases hs
         obtain ⟨cur,tt,hb,hNs,hll,hcl⟩:=hOb.blk
         obtain ⟨vs,hvs,hones,hread⟩:=cells_list (f:=fun i=>cur[i]?) (l:=ob.cells.take (len * ob.sz)) (fun i u hu=>by
          rw [List.getElem?_take] at hu
          split at hu
          ·exact hcl _ _ hu
          ·cases hu)
         obtain ⟨hx1,G1,hG1,hn1,hr1,hd1⟩:=mapS_sound (frz_sound n) hm hrel hvs
         have hver:ob1.ver = ob.ver:=by
          obtain ⟨k,_,e⟩:=hx1.2 _ _ ho1
          rw [ho] at e;cases e;rfl
         have hB1:σ o ob1.ver = some (some B):=by rw [hver];exact hB
         refine ⟨fun b hl=>Lives.back (H:=H) (H':=H1) ?_ hx1,G1,[B.b],hG1,hn1,hr1.del o,?_,?_,by simp,?_⟩
         ·obtain ⟨o',ob',B',e,hs',hb'⟩:=hl
          unfold Hp.del at e
          split at e
          ·cases e
          ·exact ⟨o',ob',B',e,hs',hb'⟩
         ·intro b hb';simp at hb';subst hb';exact ⟨o,ob,B,ho,hB,rfl⟩
         ·intro b hb' hl
          simp at hb';subst hb'
          obtain ⟨o',ob',B',e,hs',hb'⟩:=hl
          unfold Hp.del at e
          split at e
          ·cases e
          ·rename_i hne
           exact hne (hr1.inj _ _ _ _ _ _ e ho1 hs' hB1 hb')
         ·have hds:=hd1.length
          have hvl:=hvs.length
          refine .own hlo hb (fun i v e=>?_) hcc (by rw [hNs,hOb.sz];omega) (by simp at hvl;omega) (fun i v hi=>?_)
          ·rcases hr1.obs _ _ ho1 with ⟨B',hB',_,hOb1⟩ | ⟨hN,_⟩ | ⟨_,_,_,_,hOb1⟩
           rotate_left 2
           ·obtain ⟨k,_,e⟩:=hx1.2 _ _ ho1
            rw [ho] at e;cases e;exact absurd c6 hOb1.sp
           ·rw [hB1] at hB';cases hB'
            have:=hOb1.gsep i v e
            omega
           ·rw [hB1] at hN;cases hN
          ·obtain ⟨y,hy,hr⟩:=hd1.get hi
           exact ⟨y,hread _ _ hy,hr,hones y (List.mem_of_getElem? hy)⟩
       ·cases hv with
        | deep h=>cases h
        | ref hs _ _=>rw [hN] at hs;cases hs
        | ref0 hs =>
         simp only [Nat.zero_mul,List.take_zero,mapS,Option.some.injEq,Prod.mk.injEq] at hm
         obtain ⟨rfl,rfl⟩:=hm
         refine ⟨fun b hl=>?_,G,[],GExt.refl _,fun b i v e=>.inl e,hrel.del o,(fun b hb=>by cases hb),(fun b hb=>by cases hb),List.nodup_nil,.own0 _⟩
         obtain ⟨o',ob',B',e,hs',hb'⟩:=hl
         unfold Hp.del at e
         split at e
         ·cases e
         ·exact ⟨o',ob',B',e,hs',hb'⟩
      ·cases h
     ·cases h
    ·exact (frz_sound (n+1) _ _ _ _ _ _ h hrel hv).fin
   ·cases h
  ·simp only [Option.map_eq_some_iff] at h
   obtain ⟨⟨l',H1⟩,h1,e⟩:=h
   cases e
   obtain ⟨vs,rfl,hl,hones⟩:=hv.agg_inv
   obtain ⟨hs1,G1,b1,hG1,hn1,hr1,hl1,ha1,hd1,ho1⟩:=finL_sound (fin_sound n) h1 hrel hl
   exact ⟨hs1,G1,b1,hG1,hn1,hr1,hl1,ha1,hd1,.agg ho1 hones⟩
  ·simp only [Option.map_eq_some_iff] at h
   obtain ⟨⟨l',H1⟩,h1,e⟩:=h
   cases e
   obtain ⟨vs,rfl,hl⟩:=hv.tup_inv
   obtain ⟨hs1,G1,b1,hG1,hn1,hr1,hl1,ha1,hd1,ho1⟩:=finL_sound (fin_sound n) h1 hrel hl
   exact ⟨hs1,G1,b1,hG1,hn1,hr1,hl1,ha1,hd1,.tup ho1⟩
  ·exact (frz_sound (n+1) _ _ _ _ _ _ h hrel hv).fin
end
end Go.Dp
