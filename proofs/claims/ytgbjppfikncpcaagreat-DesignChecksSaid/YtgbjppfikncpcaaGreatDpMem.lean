import Derived.Test.YtgbjppfikncpcaaGreatDpOk
import Derived.Laws.OwnMore
import Derived.Laws.Slices
import Derived.Laws.Build
import Derived.Laws.Pointers
import Derived.WalkSpells
import Derived.Laws.StructEq
namespace Go.Dp
open Go.RowKit
def OpOut (P:Program) (o:Oper) (a:Act) (w w0:World) (G:Gm) (σ:Sg) (H':Hp) (D':Nat→Prop) (v:V):Prop :=
 ∃ x w' σ',((execOp a.eval o).run P w = .ok (.value x) w'∨((execOp a.eval o).run P w = .ok .skip w'∧x = undef))∧NC w w'∧SExt σ σ'∧Rel w0 G σ' H' D' w'∧VR G σ' v x
section
variable {P:Program} {o:Oper} {a:Act} {w w0:World} {G:Gm} {σ:Sg} {H H':Hp} {D:Nat→Prop} {id:Nat} {rd:Opd→Option V} {v:V}
def RdR (G:Gm) (σ:Sg) (a:Act) (rd:Opd→Option V):Prop:=∀ X x,okOpd X x = true→∀ v,rd x = some v→VR G σ v (a.eval X)
theorem out_same (h:Rel w0 G σ H D w) {x:Value} (hr:(execOp a.eval o).run P w = .ok (.value x) w) (hv:VR G σ v x) :
  OpOut P o a w w0 G σ H (fun o=>D o∨o = id) v :=
 ⟨x,w,σ,.inl hr,NC.refl _,SExt.refl _,h.weaken fun _=>.inl,hv⟩
theorem rdL_vrl (hrd:RdR G σ a rd):∀ {X:List Operand} {x:List Opd},okOpds X x = true→∀ {l:List V},rdL rd x = some l→VRL G σ l (X.map a.eval)
 | [],[],_,l,h=>by simp [rdL] at h;subst h;exact .nil
 | X::Xs,x::xs,hok,l,h=>by
  simp [okOpds] at hok
  simp only [rdL,Option.bind_eq_some_iff,Option.map_eq_some_iff] at h
  obtain ⟨v,hv,m,hm,rfl⟩:=h
  exact .cons (hrd X x hok.1 v hv) (rdL_vrl hrd hok.2 hm)
 | [],_::_,hok,_,_=>by simp [okOpds] at hok
 | _::_,[],hok,_,_=>by simp [okOpds] at hok
theorem VR.int_inv {k:IntKind} {n:Int} {x:Value} (h:VR G σ (.int k n) x):x = .int k n:=by
 cases h with | deep h=>cases h;rfl
theorem VR.bool_inv {b:Bool} {x:Value} (h:VR G σ (.bool b) x):x = .bool b:=by
 cases h with | deep h=>cases h;rfl
theorem VR.str_inv {s:ByteArray} {x:Value} (h:VR G σ (.str s) x):x = .string s:=by
 cases h with | deep h=>cases h;rfl
theorem VR.agg_inv {l:List V} {x:Value} (h:VR G σ (.agg l) x):∃ vs,x = .agg vs.toArray∧VRL G σ l vs∧Ones vs:=by
 cases h with
 | deep h=>cases h with | agg h h1=>exact ⟨_,rfl,h.vrl,h1⟩
 | agg h h1=>exact ⟨_,rfl,h,h1⟩
theorem VR.tup_inv {l:List V} {x:Value} (h:VR G σ (.tup l) x):∃ vs,x = .tuple vs.toArray∧VRL G σ l vs:=by
 cases h with
 | deep h=>cases h with | tup h=>exact ⟨_,rfl,h.vrl⟩
 | tup h=>exact ⟨_,rfl,h⟩
theorem VR.cellsOf {v:V} {x:Value} {cs:List V} (h:VR G σ v x) (hc:v.cellsOf = some cs):VRL G σ cs x.cells.toList∧Ones x.cells.toList:=by
 have one:∀ (_:cs = [v]) (_:x.cells = #[x]) (_:x.oneCell' = true),VRL G σ cs x.cells.toList∧Ones x.cells.toList:=fun e e1 e2=>by
  rw [e1,e];exact ⟨.cons h .nil,fun y hy=>by simp at hy;subst hy;exact e2⟩
 cases v with
 | agg l=>obtain ⟨vs,rfl,hl,h1⟩:=h.agg_inv;simp [V.cellsOf] at hc;subst hc;exact ⟨by simpa [Value.cells] using hl,by simpa [Value.cells] using h1⟩
 | tup l=>simp [V.cellsOf] at hc
 | _ =>
  simp [V.cellsOf] at hc
  refine one hc.symm ?_ ?_
  all_goals
   cases h with
   | deep h=>cases h <;> rfl
   | _=>rfl
theorem s_mv {X:Operand} {x:Opd} (ho:o.op = .move X∨o.op = .assign X) (hrd:RdR G σ a rd) (hok:okOpd X x = true) (hrel:Rel w0 G σ H D w)
  (hst:stepOp (.mv x) rd H id = some (v,H')):OpOut P o a w w0 G σ H' (fun o=>D o∨o = id) v:=by
 simp only [stepOp,Option.map_eq_some_iff] at hst
 obtain ⟨u,hu,e⟩:=hst
 cases e
 refine out_same hrel (x:=a.eval X) ?_ (hrd X x hok _ hu)
 rcases ho with ho | ho <;> simp [execOp,ho]
theorem s_pick {C A B:Operand} {c x y:Opd} (ho:o.op = .pick C A B) (hrd:RdR G σ a rd) (h1:okOpd C c = true) (h2:okOpd A x = true) (h3:okOpd B y = true) (hrel:Rel w0 G σ H D w)
  (hst:stepOp (.pick c x y) rd H id = some (v,H')):OpOut P o a w w0 G σ H' (fun o=>D o∨o = id) v:=by
 simp only [stepOp,Option.map_eq_some_iff,Option.bind_eq_some_iff] at hst
 obtain ⟨t,⟨cv,hc,hb⟩,u,hu,e⟩:=hst
 cases e
 have hcv:=hrd C c h1 _ hc
 cases cv <;> simp [asB] at hb
 subst hb
 have e:=hcv.bool_inv
 rename_i t
 refine out_same hrel (x:=if t then a.eval A else a.eval B) ?_ ?_
 ·simp [execOp,ho,e,asBool]
 ·cases t with
  | true=>simp at hu;exact hrd A x h2 _ hu
  | false=>simp at hu;exact hrd B y h3 _ hu
def V.scal:V→Value
 | .bool b=>.bool b
 | .int k n=>.int k n
 | _=>Go.undef
theorem run_exec_bin {b:BinOp} {t u:TypeId} {X Y:Operand} (ho:o.op = .binOp b t X Y u) :
  (execOp a.eval o).run P w = ((eqGuard b t X Y (a.eval X) (a.eval Y)).run P w).andThen fun _ w'=>((binOp b t (a.eval X) (a.eval Y)).run P w').andThen fun v w''=>.ok (.value v) w'':=by
 unfold execOp;simp only [ho,Sem.run_bind,Sem.run_pure]
 cases (eqGuard b t X Y (a.eval X) (a.eval Y)).run P w <;> rfl
theorem vint_sound {b:BinOp} {t:TypeId} {k:IntKind} {m n:Int} {r:V} (h:vint b k m n = some r) (h1:b≠.shl) (h2:b≠.shr):(binOp b t (.int k m) (.int k n)).run P w = .ok r.scal w∧DR G r r.scal:=by
 unfold vint at h
 split at h
 all_goals first
  | (cases h;exact ⟨by simp only [binOp,ne_eq,not_true_eq_false,if_false];rfl,.int _ _⟩)
  | (cases h;exact ⟨by simp only [binOp,ne_eq,not_true_eq_false,if_false];rfl,.bool _⟩)
  | (split at h
     ·cases h
     ·rename_i hn;cases h;exact ⟨by simp only [binOp,ne_eq,not_true_eq_false,if_false,Op.intDiv,hn];rfl,.int _ _⟩)
  | cases h
theorem vshift_sound {b:BinOp} {t:TypeId} {k k':IntKind} {m n:Int} {r:V} (h:vshift b k m n = some r):(binOp b t (.int k m) (.int k' n)).run P w = .ok r.scal w∧DR G r r.scal:=by
 unfold vshift at h
 split at h
 ·split at h
  ·cases h
  ·rename_i hn;cases h;exact ⟨by simp [binOp,Op.shift,V.scal,hn],.int _ _⟩
 ·split at h
  ·cases h
  ·rename_i hn;cases h;exact ⟨by simp [binOp,Op.shift,V.scal,hn],.int _ _⟩
 ·cases h
theorem s_bin {b:BinOp} {t u:TypeId} {X Y:Operand} {x y:Opd} (ho:o.op = .binOp b t X Y u) (hrd:RdR G σ a rd) (h1:okOpd X x = true) (h2:okOpd Y y = true) (hrel:Rel w0 G σ H D w)
  (hst:stepOp (.bin b x y) rd H id = some (v,H')):OpOut P o a w w0 G σ H' (fun o=>D o∨o = id) v:=by
 simp only [stepOp,Option.map_eq_some_iff,Option.bind_eq_some_iff] at hst
 obtain ⟨p,hp,q,hq,r,hr,e⟩:=hst
 cases e
 have e1:=hrd X x h1 _ hp
 have e2:=hrd Y y h2 _ hq
 unfold vbin at hr
 split at hr
 ·rename_i k m k' n
  have f1:=e1.int_inv
  have f2:=e2.int_inv
  have hgd:(eqGuard b t X Y (.int k m) (.int k' n)).run P w = .ok () w:=by
   unfold eqGuard
   cases b <;> rfl
  have key:(binOp b t (.int k m) (.int k' n)).run P w = .ok v.scal w∧DR G v v.scal:=by
   split at hr
   ·exact vshift_sound hr
   ·rename_i hs
    split at hr
    ·rename_i hk;subst hk;exact vint_sound hr (fun e=>hs (.inl e)) (fun e=>hs (.inr e))
    ·cases hr
  refine out_same hrel (x:=v.scal) ?_ (.deep key.2)
  rw [run_exec_bin ho,f1,f2,hgd,Result.andThen_ok,key.1,Result.andThen_ok]
 ·cases hr
theorem s_eqb {b:BinOp} {t u:TypeId} {X Y:Operand} {x y:Opd} {neg:Bool} (ho:o.op = .binOp b t X Y u) (hb:eqneg b neg = true) (hrd:RdR G σ a rd)
  (h1:okOpd X x = true) (h2:okOpd Y y = true) (ht:P.underlying t = some .bool) (hrel:Rel w0 G σ H D w)
  (hst:stepOp (.eqb neg x y) rd H id = some (v,H')):OpOut P o a w w0 G σ H' (fun o=>D o∨o = id) v:=by
 simp only [stepOp,Option.map_eq_some_iff,Option.bind_eq_some_iff] at hst
 obtain ⟨p,⟨pv,hp,hp2⟩,q,⟨qv,hq,hq2⟩,e⟩:=hst
 cases e
 have e1:=hrd X x h1 _ hp
 have e2:=hrd Y y h2 _ hq
 cases pv <;> simp [asB] at hp2
 cases qv <;> simp [asB] at hq2
 subst hp2;subst hq2
 have f1:=e1.bool_inv
 have f2:=e2.bool_inv
 rename_i p q
 have hgd:(eqGuard b t X Y (.bool p) (.bool q)).run P w = .ok () w:=by unfold eqGuard;cases b <;> rfl
 have hq:(Op.equal t (.bool p) (.bool q)).run P w = .ok (p == q) w:=by
  unfold Op.equal Op.maxDepth
  exact run_equalIn_bool w 9999 t p q ht
 refine out_same hrel (x:=.bool ((p == q) != neg)) ?_ (.deep (.bool _))
 rw [run_exec_bin ho,f1,f2,hgd,Result.andThen_ok]
 unfold eqneg at hb;split at hb
 ·rw [show binOp .eql t (.bool p) (.bool q) = (Op.equal t (.bool p) (.bool q) >>= fun b=>pure (.bool b)) from rfl,Sem.run_bind,hq]
  simp only [Result.andThen_ok,Sem.run_pure]
  cases p <;> cases q <;> rfl
 ·rw [show binOp .neq t (.bool p) (.bool q) = (Op.equal t (.bool p) (.bool q) >>= fun b=>pure (.bool !b)) from rfl,Sem.run_bind,hq]
  simp only [Result.andThen_ok,Sem.run_pure]
  cases p <;> cases q <;> rfl
 ·cases hb
theorem run_exec_un {u:UnOp} {t:TypeId} {X:Operand} (ho:o.op = .unOp u t X) :
  (execOp a.eval o).run P w = ((Op.unary u (a.eval X)).run P w).andThen fun v w'=>.ok (.value v) w':=by
 unfold execOp;simp only [ho,Sem.run_bind,Sem.run_pure]
theorem s_un {u:UnOp} {t:TypeId} {X:Operand} {x:Opd} (ho:o.op = .unOp u t X) (hrd:RdR G σ a rd) (h1:okOpd X x = true) (hrel:Rel w0 G σ H D w)
  (hst:stepOp (.un u x) rd H id = some (v,H')):OpOut P o a w w0 G σ H' (fun o=>D o∨o = id) v:=by
 simp only [stepOp,Option.map_eq_some_iff,Option.bind_eq_some_iff] at hst
 obtain ⟨r,⟨p,hp,hr⟩,e⟩:=hst
 cases e
 have e1:=hrd X x h1 _ hp
 unfold unV at hr
 split at hr
 ·have f1:=e1.int_inv
  cases hr
  refine out_same hrel (x:=.int _ _) ?_ (.deep (.int _ _))
  rw [run_exec_un ho,f1];rfl
 ·have f1:=e1.bool_inv
  cases hr
  refine out_same hrel (x:=.bool _) ?_ (.deep (.bool _))
  rw [run_exec_un ho,f1];rfl
 ·have f1:=e1.int_inv
  simp only [vint,Option.some.injEq] at hr
  subst hr
  refine out_same hrel (x:=.int _ _) ?_ (.deep (.int _ _))
  rw [run_exec_un ho,f1];rfl
 ·cases hr
theorem s_cvt {s d:TypeId} {k:IntKind} {X:Operand} {x:Opd} (ho:o.op = .convert s d X) (hrd:RdR G σ a rd) (h1:okOpd X x = true) (hs:intT P s = true) (hd:P.underlying d = some (.int k)) (hrel:Rel w0 G σ H D w)
  (hst:stepOp (.cvt k x) rd H id = some (v,H')):OpOut P o a w w0 G σ H' (fun o=>D o∨o = id) v:=by
 simp only [stepOp,Option.map_eq_some_iff,Option.bind_eq_some_iff] at hst
 obtain ⟨r,⟨p,hp,hr⟩,e⟩:=hst
 cases e
 have e1:=hrd X x h1 _ hp
 cases p <;> simp [cvtV] at hr
 have f1:=e1.int_inv
 subst hr
 unfold intT at hs
 split at hs <;> simp at hs
 rename_i k2 hs2
 exact out_same hrel (by simp [execOp,ho,f1,convert,run_underlying hs2,run_underlying hd,Conv.intToInt]) (.deep (.int _ _))
theorem s_mkif {t:TypeId} {X:Operand} {x:Opd} (ho:o.op = .makeInterface t X) (hrd:RdR G σ a rd) (h1:okOpd X x = true) (ht:concreteT P t = true) (hrel:Rel w0 G σ H D w)
  (hst:stepOp (.mkif t x) rd H id = some (v,H')):OpOut P o a w w0 G σ H' (fun o=>D o∨o = id) v:=by
 simp only [stepOp,Option.map_eq_some_iff] at hst
 obtain ⟨p,hp,e⟩:=hst
 cases e
 have e1:=hrd X x h1 _ hp
 unfold concreteT at ht
 cases hu:P.underlying t with
 | none=>simp [hu] at ht
 | some d =>
  refine out_same hrel (x:=.iface t (a.eval X)) ?_ (.ifc e1)
  cases d <;> simp [hu] at ht <;> simp [execOp,ho,Instr.makeInterface,run_underlying hu]
theorem s_mkfn {fn:Fn} {F C:Array Operand} {f c:List Opd} (ho:o.op = .makeFunc fn F C) (hrd:RdR G σ a rd) (h1:okOpds F.toList f = true) (h2:okOpds C.toList c = true) (hrel:Rel w0 G σ H D w)
  (hst:stepOp (.mkfn fn f c) rd H id = some (v,H')):OpOut P o a w w0 G σ H' (fun o=>D o∨o = id) v:=by
 simp only [stepOp,Option.map_eq_some_iff,Option.bind_eq_some_iff] at hst
 obtain ⟨p,hp,q,hq,e⟩:=hst
 cases e
 have e1:=rdL_vrl hrd h1 hp
 have e2:=rdL_vrl hrd h2 hq
 have:=VR.clo (fn:=fn) e1 e2
 refine out_same hrel (x:=.func fn (F.map a.eval) (C.map a.eval)) ?_ (by rw [← List.map_toArray,← List.map_toArray] at this;simpa using this)
 simp [execOp,ho,Instr.makeFunc]
theorem s_nilc {X:Operand} {x:Opd} (ho:o.op = .nilCheck X) (hrd:RdR G σ a rd) (h1:okOpd X x = true) (hrel:Rel w0 G σ H D w)
  (hst:stepOp (.nilc x) rd H id = some (v,H')):OpOut P o a w w0 G σ H' (fun o=>D o∨o = id) v:=by
 simp only [stepOp,Option.map_eq_some_iff,Option.bind_eq_some_iff] at hst
 obtain ⟨r,⟨p,hp,hr⟩,e⟩:=hst
 cases e
 have e1:=hrd X x h1 _ hp
 refine out_same hrel (x:=a.eval X) ?_ ?_
 ·unfold nilcV at hr
  split at hr <;> simp at hr
  ·cases hx:a.eval X <;> rw [hx] at e1 <;> cases e1 <;> rename_i h <;> cases h <;> simp [execOp,ho,hx]
  ·generalize hx:a.eval X = z at e1
   cases e1 with
   | ptr hs=>simp [execOp,ho,hx]
   | deep h=>cases h
  ·generalize hx:a.eval X = z at e1
   cases e1 with
   | clo=>simp [execOp,ho,hx]
   | deep h=>cases h;simp [execOp,ho,hx]
  ·generalize hx:a.eval X = z at e1
   cases e1 with
   | ifc=>simp [execOp,ho,hx]
   | deep h=>cases h;simp [execOp,ho,hx]
 ·unfold nilcV at hr
  split at hr <;> simp at hr <;> subst hr <;> exact e1
end
end Go.Dp
namespace Go.Dp
open Go.RowKit
section
variable {P:Program} {o:Oper} {a:Act} {w w0:World} {G:Gm} {σ:Sg} {H H':Hp} {D:Nat→Prop} {id:Nat} {rd:Opd→Option V} {v:V}
theorem run_isAgg' {t:TypeId} {d:TypeDesc} (h:P.underlying t = some d):(isAgg t).run P w = .ok (isAggD d) w:=by
 unfold isAgg
 simp only [Sem.run_bind,run_underlying h,Result.andThen_ok]
 cases d <;> rfl
theorem run_sizeOf' {t:TypeId} {i:TypeInfo} (h:P.info? t = some i):(sizeOf t).run P w = .ok i.size w:=by
 simp [sizeOf,typeInfo,h]
theorem run_zeroValue' {t:TypeId} {i:TypeInfo} {z:Value} (h:P.info? t = some i) (hz:i.zero = some z):(zeroValue t).run P w = .ok z w:=by
 simp [zeroValue,typeInfo,h,hz]
theorem cells_list {f:Nat→Option Value}:∀ {l:List V},(∀ (i:Nat) (v:V),l[i]? = some v→∃ y,f i = some y∧VR G σ v y∧y.oneCell' = true)→∃ vs,VRL G σ l vs∧Ones vs∧∀ (i:Nat) (y:Value),vs[i]? = some y→f i = some y
 | [],_=>⟨[],.nil,(fun x hx=>by cases hx),(fun i y h=>by simp at h)⟩
 | v::l,h=>by
  obtain ⟨y,hy,hv,h1⟩:=h 0 v rfl
  obtain ⟨vs,hvs,h2,hf⟩:=cells_list (f:=fun i=>f (i+1)) (l:=l) (fun i u hu=>h (i+1) u (by simpa using hu))
  refine ⟨y::vs,.cons hv hvs,fun z hz=>?_,fun i z hz=>?_⟩
  ·rcases List.mem_cons.1 hz with rfl | hz
   ·exact h1
   ·exact h2 z hz
  cases i with
  | zero=>simp at hz;subst hz;exact hy
  | succ i=>exact hf i z (by simpa using hz)
theorem cellsAt_sound (h:Rel w0 G σ H D w) {p:V} {x:Value} (hp:VR G σ p x) {cells:List V} {off:Nat} (hc:p.cellsAt H = some (cells,off)) :
  ∃ b base,x = .pointer (some ⟨b,base+off,none⟩)∧∀ (i:Nat) (u:V),cells[i]? = some u→∃ y,w.cell? ⟨b,base+i,none⟩ = some y∧VR G σ u y∧y.oneCell' = true:=by
 unfold V.cellsAt at hc
 split at hc
 ·cases hc
  cases hp with
  | deep hp =>
   cases hp with
   | fp hl hg h1 =>
    refine ⟨_,_,rfl,fun i u hu=>?_⟩
    obtain ⟨y,hy,hr⟩:=hl.get hu
    exact ⟨y,h.gok _ _ _ (hg _ _ hy),.deep hr,h1 y (List.mem_of_getElem? hy)⟩
 ·split at hc
  ·rename_i o ver off ob ho
   split at hc
   ·rename_i hv
    subst hv
    cases hc
    cases hp with
    | deep hp=>cases hp
    | ptr hs =>
     rename_i B
     rcases h.obs _ _ ho with ⟨B',hB',_,hob⟩ | ⟨hn,_⟩ | ⟨B',hB',_,_,hob⟩
     ·rw [hs] at hB';cases hB'
      refine ⟨B.b,0,by simp,fun i u hu=>?_⟩
      obtain ⟨c,t,hb,_,_,hcl⟩:=hob.blk
      obtain ⟨y,hy,hr,h1⟩:=hcl i u hu
      exact ⟨y,by simp [World.cell?,hb,hy],hr,h1⟩
     ·rw [hs] at hn;cases hn
     ·exact ⟨B.b,0,by simp,fun i u hu=>by rw [hob.nil] at hu;simp at hu⟩
   ·cases hc
  ·cases hc
 ·cases hc
theorem run_exec_load {t:TypeId} {X:Operand} (ho:o.op = .load t X) {ad:Addr} (hx:a.eval X = .pointer (some ad)) :
  (execOp a.eval o).run P w = ((loadVar t ad).run P w).andThen fun v w'=>.ok (.value v) w':=by
 unfold execOp;simp only [ho,Instr.loadAt,hx,Instr.sureAddr,Sem.run_bind,Sem.run_pure,Result.andThen_ok]
theorem s_load {t:TypeId} {X:Operand} {x:Opd} {n:Option Nat} (ho:o.op = .load t X) (hrd:RdR G σ a rd) (h1:okOpd X x = true) (ht:okShape P t n = true) (hrel:Rel w0 G σ H D w)
  (hst:stepOp (.load n x) rd H id = some (v,H')):OpOut P o a w w0 G σ H' (fun o=>D o∨o = id) v:=by
 simp only [stepOp,Option.map_eq_some_iff,Option.bind_eq_some_iff] at hst
 obtain ⟨⟨cells,off⟩,⟨p,hp,hc⟩,u,hu,e⟩:=hst
 cases e
 obtain ⟨b,base,hx,hcl⟩:=cellsAt_sound hrel (hrd X x h1 _ hp) hc
 unfold okShape at ht
 cases hd:P.underlying t with
 | none=>simp [hd] at ht
 | some d =>
  cases n with
  | none =>
   simp [hd] at ht
   simp only [loadV] at hu
   obtain ⟨y,hy,hr,_⟩:=hcl off v hu
   refine out_same hrel (x:=y) ?_ hr
   rw [run_exec_load ho hx]
   simp [loadVar,run_isAgg' hd,ht.1,hy]
  | some k =>
   simp [hd] at ht
   simp only [loadV] at hu
   split at hu
   ·rename_i hk
    cases hu
    obtain ⟨vs,hvs,hones,hf⟩:=cells_list (f:=fun i=>w.cell? ⟨b,base+off+i,none⟩) (l:=(cells.drop off).take k) (fun i u hu=>by
     rw [List.getElem?_take] at hu
     split at hu
     ·rw [List.getElem?_drop] at hu
      have:=hcl (off+i) u hu
      rwa [← Nat.add_assoc] at this
     ·cases hu)
    have hlen:vs.length = k:=by rw [← hvs.length];simp;omega
    refine out_same hrel (x:=.agg vs.toArray) ?_ (.agg hvs hones)
    rw [run_exec_load ho hx]
    have hsz:=ht.2
    unfold sizeIs at hsz
    cases hi:P.info? t with
    | none=>simp [hi] at hsz
    | some i =>
     simp [hi] at hsz
     have hl:=run_loadCells_list (P:=P) w ⟨b,base+off,none⟩ vs (fun j y hy=>by
      rw [show (⟨b,base+off,none⟩:Addr).add j = ⟨b,base+off+j,none⟩ from by unfold Addr.add;split <;> simp_all]
      exact hf j y hy)
     rw [hlen] at hl
     simp [loadVar,run_isAgg' hd,ht.1,run_sizeOf' hi,hsz,hl]
   ·cases hu
theorem run_exec_store {t:TypeId} {X Y:Operand} (ho:o.op = .store t X Y) {ad:Addr} (hx:a.eval X = .pointer (some ad)) :
  (execOp a.eval o).run P w = ((storeVar t ad (a.eval Y)).run P w).andThen fun _ w'=>.ok .skip w':=by
 unfold execOp;simp only [ho,Instr.storeAt,hx,Instr.sureAddr,Sem.run_bind,Sem.run_pure,Result.andThen_ok]
theorem ptr_obj (h:Rel w0 G σ H D w) {p:Value} {o' ver off:Nat} (hp:VR G σ (.ptr o' ver off) p) {ob:Ob} (ho:H o' = some ob) (hv:ob.ver = ver) (hne:ob.cells≠[]∨ob.sp = 0) :
  ∃ B,σ o' ob.ver = some (some B)∧p = .pointer (some ⟨B.b,off,none⟩)∧w0.heap.size≤B.b∧ObR G σ w ob B:=by
 subst hv
 cases hp with
 | deep hp=>cases hp
 | ptr hs =>
  rename_i B
  rcases h.obs _ _ ho with ⟨B',hB',h2,hob⟩ | ⟨hn,_⟩ | ⟨B',hB',_,_,hob⟩
  ·rw [hs] at hB';cases hB';exact ⟨B,hs,rfl,h2,hob⟩
  ·rw [hs] at hn;cases hn
  ·rcases hne with h | h
   ·exact absurd hob.nil h
   ·exact absurd h hob.sp
theorem s_store {t:TypeId} {X Y:Operand} {x y:Opd} {n:Nat} (ho:o.op = .store t X Y) (hrd:RdR G σ a rd) (h1:okOpd X x = true) (h2:okOpd Y y = true) (ht:sizeIs P t n = true) (hrel:Rel w0 G σ H D w)
  (hst:stepOp (.store n x y) rd H id = some (v,H')):OpOut P o a w w0 G σ H' (fun o=>D o∨o = id) v:=by
 simp only [stepOp,Option.map_eq_some_iff,Option.bind_eq_some_iff] at hst
 obtain ⟨p,hp,u,hu,H1,hH,e⟩:=hst
 cases e
 have e1:=hrd X x h1 _ hp
 have e2:=hrd Y y h2 _ hu
 unfold storeV at hH
 split at hH
 ·rename_i o' ver off
  split at hH
  ·rename_i ob hob
   simp only [Option.bind_eq_some_iff] at hH
   obtain ⟨vc,hvc,hH⟩:=hH
   split at hH
   ·rename_i hc
    obtain ⟨c1,c2,c3,c4,c5⟩:=hc
    cases hH
    obtain ⟨B,hs,hx,hlo,hOb⟩:=ptr_obj hrel e1 hob c1 (.inl fun e=>by rw [e] at c3;simp at c3;omega)
    obtain ⟨c,t',hb,hN,hl,hcl⟩:=hOb.blk
    obtain ⟨hcv,hones⟩:=e2.cellsOf hvc
    have hlen:(a.eval Y).cells.toList.length = n:=by rw [← hcv.length];exact c4
    have hw:=hrel.write hob hs hb (off:=off) c2 hcv hones (by omega) (by omega) (cells':=ob.cells.take off++vc++ob.cells.drop (off+n)) (by rw [c4])
    refine ⟨undef,_,σ,.inr ⟨?_,rfl⟩,NC.setRow hb _,SExt.refl _,hw.weaken fun _=>.inl,.deep ?_⟩
    ·rw [run_exec_store ho hx]
     unfold sizeIs at ht
     cases hi:P.info? t with
     | none=>simp [hi] at ht
     | some i =>
      simp [hi] at ht
      have hst:=run_storeCells_at P B.b off t' (a.eval Y).cells.toList 0 c w hb (by omega) hones
      have hsz:(a.eval Y).cells.size = i.size:=by rw [ht,← hlen];simp
      simp only [Nat.add_zero] at hst
      simp [storeVar,run_sizeOf' hi,hsz,hst]
    ·exact DR.tup (vs:=[]) .nil
   ·cases hH
  ·cases hH
 ·cases hH
theorem run_exec_alloc {t:TypeId} (ho:o.op = .alloc t) {i:TypeInfo} {z:Value} (hi:P.info? t = some i) (hz:i.zero = some z) :
  (execOp a.eval o).run P w = .ok (.value (.pointer (some ⟨w.heap.size,0,none⟩))) (w.alloc (.cells z.cells t)):=by
 unfold execOp;simp only [ho,Instr.alloc,Sem.run_bind,Sem.run_pure,run_zeroValue' hi hz,Result.andThen_ok]
 simp [newVar,newRow]
theorem zeroIs_some {t:TypeId} {z:List V} (h:zeroIs P t z = true):∃ i zv,P.info? t = some i∧i.zero = some zv∧svals zv.cells.toList z = true:=by
 unfold zeroIs at h
 split at h
 ·rename_i i hi
  split at h
  ·rename_i zv hz;exact ⟨i,zv,hi,hz,h⟩
  ·cases h
 ·cases h
theorem s_alloc {t:TypeId} {z:List V} {sz:Nat} (ho:o.op = .alloc t) (hz:zeroIs P t z = true) (hid:¬ D id) (hrel:Rel w0 G σ H D w)
  (hst:stepOp (.alloc z sz) rd H id = some (v,H')):OpOut P o a w w0 G σ H' (fun o=>D o∨o = id) v:=by
 simp only [stepOp,Option.some.injEq,Prod.mk.injEq] at hst
 obtain ⟨rfl,rfl⟩:=hst
 obtain ⟨i,zv,hi,hzv,hs⟩:=zeroIs_some hz
 obtain ⟨σ',hse,hs',hr⟩:=hrel.alloc hid (svals_dr (G:=G) hs).vrl (svals_ones hs) sz t
 exact ⟨_,_,σ',.inl (by rw [run_exec_alloc ho hi hzv]),NC.alloc _ _,hse,by simpa using hr,.ptr hs'⟩
theorem run_exec_box {t:TypeId} {X:Operand} (ho:o.op = .box t X) :
  (execOp a.eval o).run P w = .ok (.value (.pointer (some ⟨w.heap.size,0,none⟩))) (w.alloc (.cells (a.eval X).cells t)):=by
 unfold execOp;simp only [ho,Instr.box,Sem.run_bind,Sem.run_pure]
 simp [newVar,newRow]
theorem s_box {t:TypeId} {X:Operand} {x:Opd} {sz:Nat} (ho:o.op = .box t X) (hrd:RdR G σ a rd) (h1:okOpd X x = true) (hid:¬ D id) (hrel:Rel w0 G σ H D w)
  (hst:stepOp (.box sz x) rd H id = some (v,H')):OpOut P o a w w0 G σ H' (fun o=>D o∨o = id) v:=by
 simp only [stepOp,Option.map_eq_some_iff,Option.bind_eq_some_iff] at hst
 obtain ⟨cs,⟨u,hu,hc⟩,e⟩:=hst
 cases e
 obtain ⟨hcv,hones⟩:=(hrd X x h1 _ hu).cellsOf hc
 obtain ⟨σ',hse,hs',hr⟩:=hrel.alloc hid hcv hones sz t
 exact ⟨_,_,σ',.inl (by rw [run_exec_box ho]),NC.alloc _ _,hse,by simpa using hr,.ptr hs'⟩
theorem run_exec_faddr {s:TypeId} {X:Operand} {f:Nat} (ho:o.op = .fieldAddr s X f) {fields:Array Field} {fd:Field} (hs:P.underlying s = some (.struct fields)) (hf:fields[f]? = some fd)
  {i:TypeInfo} (hi:P.info? fd.type = some i) (hz:i.size≠0) {ad:Addr} (hx:a.eval X = .pointer (some ad)) :
  (execOp a.eval o).run P w = .ok (.value (.pointer (some (ad.add fd.offset)))) w:=by
 unfold execOp;simp only [ho,Instr.fieldAt,Sem.run_bind,Sem.run_pure,run_underlying hs,Result.andThen_ok,hf,hx,Instr.sureAddr,fieldPlace,run_sizeOf' hi]
 simp [hz]
theorem add_none (b o n:Nat):(⟨b,o,none⟩:Addr).add n = ⟨b,o+n,none⟩:=by unfold Addr.add;split <;> simp_all
theorem s_faddr {s:TypeId} {X:Operand} {x:Opd} {f off:Nat} (ho:o.op = .fieldAddr s X f) (hrd:RdR G σ a rd) (h1:okOpd X x = true) (hf:okField P s f off = true) (hrel:Rel w0 G σ H D w)
  (hst:stepOp (.faddr off x) rd H id = some (v,H')):OpOut P o a w w0 G σ H' (fun o=>D o∨o = id) v:=by
 simp only [stepOp,Option.map_eq_some_iff,Option.bind_eq_some_iff] at hst
 obtain ⟨r,⟨p,hp,hr⟩,e⟩:=hst
 cases e
 have e1:=hrd X x h1 _ hp
 unfold okField at hf
 cases hu:P.underlying s with
 | none=>simp [hu] at hf
 | some d =>
  cases d <;> simp [hu] at hf
  rename_i fields
  cases hfd:fields[f]? with
  | none=>simp [hfd] at hf
  | some fd =>
   simp [hfd] at hf
   cases hi:P.info? fd.type with
   | none=>simp [hi] at hf
   | some i =>
    simp [hi] at hf
    obtain ⟨rfl,hz⟩:=hf
    unfold faddrV at hr
    split at hr
    ·cases hr
     generalize hX:a.eval X = z at e1
     cases e1 with
     | deep h =>
      cases h with
      | fp hl hg h1 =>
       rename_i vs b q
       refine out_same hrel (x:=.pointer (some ⟨b,q+(_+fd.offset),none⟩)) ?_ (.deep (.fp hl hg h1))
       rw [run_exec_faddr ho hu hfd hi hz hX,add_none,Nat.add_assoc]
    ·cases hr
     generalize hX:a.eval X = z at e1
     cases e1 with
     | deep h=>cases h
     | ptr hs =>
      refine out_same hrel (x:=.pointer (some ⟨_,_+fd.offset,none⟩)) ?_ (.ptr hs)
      rw [run_exec_faddr ho hu hfd hi hz hX,add_none]
    ·cases hr
theorem run_part {t:TypeId} {d:TypeDesc} (hd:P.underlying t = some d) {cs:List Value} {off:Nat} {n:Option Nat} (ht:okShape P t n = true) {x:Value}
  (hx:match n with | none=>cs[off]? = some x | some k=>off+k≤cs.length∧x = .agg ((cs.drop off).take k).toArray) :
  (part t cs.toArray off).run P w = .ok x w:=by
 unfold okShape at ht
 cases n with
 | none =>
  simp [hd] at ht
  simp only at hx
  simp [part,run_isAgg' hd,ht.1,hx]
 | some k =>
  simp [hd] at ht
  obtain ⟨hk,rfl⟩:=hx
  have hsz:=ht.2
  unfold sizeIs at hsz
  cases hi:P.info? t with
  | none=>simp [hi] at hsz
  | some i =>
   simp [hi] at hsz
   simp [part,run_isAgg' hd,ht.1,run_sizeOf' hi,hsz]
theorem s_fld {s:TypeId} {X:Operand} {x:Opd} {f off:Nat} {n:Option Nat} (ho:o.op = .field s X f) (hrd:RdR G σ a rd) (h1:okOpd X x = true) (hf:okFieldV P s f n off = true) (hrel:Rel w0 G σ H D w)
  (hst:stepOp (.fld n off x) rd H id = some (v,H')):OpOut P o a w w0 G σ H' (fun o=>D o∨o = id) v:=by
 simp only [stepOp,Option.map_eq_some_iff,Option.bind_eq_some_iff] at hst
 obtain ⟨r,⟨p,hp,hr⟩,e⟩:=hst
 cases e
 have e1:=hrd X x h1 _ hp
 unfold fldV at hr
 split at hr
 ·obtain ⟨vs,hX,hl,hones⟩:=e1.agg_inv
  unfold okFieldV at hf
  cases hu:P.underlying s with
  | none=>simp [hu] at hf
  | some d =>
   cases d <;> simp [hu] at hf
   rename_i fields
   cases hfd:fields[f]? with
   | none=>simp [hfd] at hf
   | some fd =>
    simp [hfd] at hf
    obtain ⟨rfl,hsh⟩:=hf
    cases hd:P.underlying fd.type with
    | none=>simp [okShape,hd] at hsh
    | some d2 =>
     have key:∃ x,(part fd.type vs.toArray fd.offset).run P w = .ok x w∧VR G σ v x:=by
      cases n with
      | none =>
       simp only [loadV] at hr
       obtain ⟨y,hy,hv⟩:=hl.get hr
       exact ⟨y,run_part hd hsh hy,hv⟩
      | some k =>
       simp only [loadV] at hr
       split at hr
       ·rename_i hk
        cases hr
        exact ⟨_,run_part hd hsh ⟨by rw [← hl.length];exact hk,rfl⟩,.agg ((hl.drop _).take _) (fun y hy=>hones y (List.mem_of_mem_drop (List.mem_of_mem_take hy)))⟩
       ·cases hr
     obtain ⟨y,hy,hv⟩:=key
     refine out_same hrel (x:=y) ?_ hv
     unfold execOp;simp only [ho,Instr.field,Sem.run_bind,Sem.run_pure,run_underlying hu,Result.andThen_ok,hfd,hX,asAgg,hy]
 ·cases hr
theorem s_ext {X:Operand} {x:Opd} {i:Nat} (ho:o.op = .extract X i) (hrd:RdR G σ a rd) (h1:okOpd X x = true) (hrel:Rel w0 G σ H D w)
  (hst:stepOp (.ext i x) rd H id = some (v,H')):OpOut P o a w w0 G σ H' (fun o=>D o∨o = id) v:=by
 simp only [stepOp,Option.map_eq_some_iff,Option.bind_eq_some_iff] at hst
 obtain ⟨vs,⟨p,hp,hr⟩,u,hu,e⟩:=hst
 cases e
 have e1:=hrd X x h1 _ hp
 cases p <;> simp [asT] at hr
 subst hr
 obtain ⟨ys,hX,hl⟩:=e1.tup_inv
 obtain ⟨y,hy,hv⟩:=hl.get hu
 refine out_same hrel (x:=y) ?_ hv
 unfold execOp;simp only [ho,Instr.extract,hX,Sem.run_bind]
 simp [hy]
end
end Go.Dp
