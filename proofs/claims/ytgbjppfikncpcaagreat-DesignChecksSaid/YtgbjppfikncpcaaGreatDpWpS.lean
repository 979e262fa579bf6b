/- What is achieved over deep values is achieved by the model: calls, operations, regions in their own order. -/
import Derived.Test.YtgbjppfikncpcaaGreatDpWp
namespace Go.Dp
open Go.RowKit
set_option linter.unusedSimpArgs false
set_option linter.unusedVariables false
variable {Y:Ys}
def FOk (F:Fence):Prop:=F = Fence.wide∨∃ l,F = Fence.wide.inRound l
theorem FOk.fn {F:Fence} (h:FOk F) (f:FuncId):F.fn f:=by
 rcases h with rfl | ⟨l,rfl⟩ <;> trivial
theorem FOk.depth {F:Fence} (h:FOk F):F.depth = none:=by
 rcases h with rfl | ⟨l,rfl⟩ <;> rfl
theorem FOk.calls {F:Fence} (h:FOk F) {n m:Nat} {P:Program} {f:FuncId} {args:Array Value} {w:World} {R:Ending→World→Prop} (hc:CallsIn Fence.wide m P f args w R):CallsIn F n P f args w R:=by
 rcases h with rfl | ⟨l,rfl⟩
 ·exact ⟨trivial,fun cs _=>hc.2 cs (room_wide _)⟩
 ·exact ⟨trivial,fun cs _=>hc.2 cs (room_wide _)⟩
theorem FOk.round {F:Fence} (h:FOk F) {n m:Nat} {P:Program} {l:Nat} {f:FuncId} {tmps:Array Value} {asg body:Code} {w:World} {R:Ending→World→Prop} (hc:RoundIn Fence.wide m P l f tmps asg body w R):RoundIn F n P l f tmps asg body w R:=by
 rcases h with rfl | ⟨l,rfl⟩
 ·exact ⟨trivial,fun c cs _=>hc.2 c cs (room_wide _)⟩
 ·exact ⟨trivial,fun c cs _=>hc.2 c cs (room_wide _)⟩
section
variable {w w0 w':World} {G G':Gm} {σ:Sg} {H H':Hp} {D:Nat→Prop}
theorem Lives.lt (h:Rel w0 G σ H D w) {b:Nat} (hl:Lives σ H b):b < w.heap.size:=by
 obtain ⟨o,ob,B,ho,hB,rfl⟩:=hl
 rcases h.obs o ob ho with ⟨B',hB',_,hob⟩ | ⟨hn,_⟩ | ⟨B',hB',_,_,hob⟩
 ·rw [hB] at hB';cases hB';exact hob.lt
 ·rw [hB] at hn;cases hn
 ·rw [hB] at hB';cases hB';exact hob.lt
theorem Lives.le (h:Rel w0 G σ H D w) {b:Nat} (hl:Lives σ H b):w0.heap.size≤b:=by
 obtain ⟨o,ob,B,ho,hB,rfl⟩:=hl
 rcases h.obs o ob ho with ⟨B',hB',hlo,hob⟩ | ⟨hn,_⟩ | ⟨B',hB',_,hlo,hob⟩
 ·rw [hB] at hB';cases hB';exact hlo
 ·rw [hB] at hn;cases hn
 ·rw [hB] at hB';cases hB';exact hlo
theorem Rel.after (h:Rel w0 G σ H D w) (hb:Below w.heap.size w w') (hG:GExt G G') (hok:GOk G' w') (hn:∀ b o v,G' b o = some v→G b o = some v∨w.heap.size≤b):Rel w0 G' σ H D w':=by
 refine ⟨h.old.trans (hb.mono h.old.size),hok,h.dom,h.hdom,fun o ob e=>?_,h.inj,h.vers⟩
 rcases h.obs o ob e with ⟨B,hB,hlo,hob⟩ | hnn | ⟨B,hB,hB0,hlo,hob⟩
 rotate_left 2
 ·exact .inr (.inr ⟨B,hB,hB0,hlo,hob.mono hG (SExt.refl _) (hb.block _ hob.lt)⟩)
 ·refine .inl ⟨B,hB,hlo,hob.nl,hob.sp,hob.sz,?_,fun i v e'=>?_⟩
  ·obtain ⟨c,t,a1,a2,a3,a4⟩:=hob.blk
   exact ⟨c,t,by rw [hb.block _ hob.lt];exact a1,a2,a3,fun i v e=>let ⟨x,b1,b2,b3⟩:=a4 i v e;⟨x,b1,b2.mono hG (SExt.refl _),b3⟩⟩
  ·rcases hn _ _ _ e' with e' | e'
   ·exact hob.gsep i v e'
   ·exact absurd hob.lt (by omega)
 ·exact .inr (.inl hnn)
mutual
theorem OwnR.low {lo lo':Nat} (hl:lo'≤lo):∀ {v:V} {x:Value} {bs:List Nat},OwnR G w lo v x bs→OwnR G w lo' v x bs
 | _,_,_,.deep h=>.deep h
 | _,_,_,.own0 sz=>.own0 sz
 | _,_,_,.own h1 h2 h3 h4 h5 h6 h7=>.own (by omega) h2 h3 h4 h5 h6 h7
 | _,_,_,.agg h h1=>.agg (h.low hl) h1
 | _,_,_,.tup h=>.tup (h.low hl)
theorem OwnRL.low {lo lo':Nat} (hl:lo'≤lo):∀ {v:List V} {x:List Value} {bs:List Nat},OwnRL G w lo v x bs→OwnRL G w lo' v x bs
 | _,_,_,.nil=>.nil
 | _,_,_,.cons h t=>.cons (h.low hl) (t.low hl)
end
end
structure Cx where
 w0:World
 G0:Gm
 σ0:Sg
 D0:Nat→Prop
 nx0:Nat
 wE:World
 nt:Nat
 hD0:∀ j,nx0≤j→¬ D0 j
 hwE:w0.heap.size≤wE.heap.size
def MarksOk (wE:World) (ds:List Deferred) (w:World):Prop:=∃ rs:List Nat,rs.Nodup∧ds.map (·.target) = rs.map Target.collected∧∀ r∈rs,wE.heap.size≤r∧w.heap[r]? = some (.deferred (some []))
theorem MarksOk.nc {wE w w':World} {ds:List Deferred} (h:MarksOk wE ds w) (hn:NC w w'):MarksOk wE ds w' :=
 let ⟨rs,a,b,c⟩:=h;⟨rs,a,b,fun r hr=>⟨(c r hr).1,hn.oth _ _ (c r hr).2 rfl⟩⟩
theorem MarksOk.nil (wE w:World):MarksOk wE [] w:=⟨[],.nil,rfl,fun _ h=>by cases h⟩
def SRr (Γ:Cx) (A:Nat→Prop) (E:Env) (H:Hp) (a:Act) (w:World):Prop :=
 ∃ G σ,GExt Γ.G0 G∧SExt Γ.σ0 σ∧(∀ b o v,G b o = some v→Γ.G0 b o = some v∨Γ.w0.heap.size≤b)∧Rel Γ.w0 G σ H (fun o=>Γ.D0 o∨A o) w ∧
  (∀ n v,look n E = some v→VR G σ v (a.eval (.tmp n)))∧a.tmps.size = Γ.nt∧MarksOk Γ.wE a.defers w∧NC Γ.wE w
theorem SRr.weaken {Γ:Cx} {A A':Nat→Prop} {E:Env} {H:Hp} {a:Act} {w:World} (h:SRr Γ A E H a w) (hA:∀ j,A j→A' j):SRr Γ A' E H a w :=
 let ⟨G,σ,a1,a2,a3,a4,a5⟩:=h;⟨G,σ,a1,a2,a3,a4.weaken (fun _ hd=>hd.imp id (hA _)),a5⟩
theorem SRr.env {Γ:Cx} {A:Nat→Prop} {E E':Env} {H:Hp} {a:Act} {w:World} (h:SRr Γ A E H a w) (hE:∀ n v,look n E' = some v→look n E = some v):SRr Γ A E' H a w :=
 let ⟨G,σ,a1,a2,a3,a4,a5,a6⟩:=h;⟨G,σ,a1,a2,a3,a4,fun n v e=>a5 n v (hE n v e),a6⟩
theorem look_keep {E:Env}:∀ {l:List Nat} {n:Nat} {v:V},look n (keepE E l) = some v→look n E = some v
 | [],n,v,h=>by simp [keepE,look] at h
 | m::l,n,v,h=>by
  simp only [keepE] at h
  split at h
  ·rename_i v' hv'
   simp only [look] at h
   split at h
   ·rename_i hmn;subst hmn;rw [hv'];exact h
   ·exact look_keep h
  ·exact look_keep h
theorem eval_put_tmp {a:Act} {d n:Nat} {x:Value} (hd:d < a.tmps.size):(a.put (some d) x).eval (.tmp n) = if d = n then x else a.eval (.tmp n):=by
 simp only [Act.put,Act.eval]
 by_cases h:d = n
 ·subst h;simp [Array.getD_eq_getD_getElem?,hd]
 ·simp [Array.getD_eq_getD_getElem?,h]
theorem SRr.put {Γ:Cx} {A':Nat→Prop} {E:Env} {H':Hp} {a:Act} {w w':World} {G G':Gm} {σ σ':Sg} {v:V} {x:Value} {dst dst':Option Nat}
  (hd:(match dst,dst' with | none,none=>true | some d,some d'=>d == d' && decide (d < Γ.nt) | _,_=>false) = true)
  (hG0:GExt Γ.G0 G) (hσ0:SExt Γ.σ0 σ) (hnew:∀ b o v,G b o = some v→Γ.G0 b o = some v∨Γ.w0.heap.size≤b)
  (hE:∀ n v,look n E = some v→VR G σ v (a.eval (.tmp n))) (hsz:a.tmps.size = Γ.nt) (hds:MarksOk Γ.wE a.defers w) (hnc:NC Γ.wE w)
  (hG:GExt G G') (hσ:SExt σ σ') (hnew':∀ b o v,G' b o = some v→G b o = some v∨Γ.w0.heap.size≤b) (hrel:Rel Γ.w0 G' σ' H' (fun o=>Γ.D0 o∨A' o) w') (hnc':NC w w') (hv:VR G' σ' v x) :
  SRr Γ A' (putE dst' v E) H' (a.put dst x) w':=by
 refine ⟨G',σ',hG0.trans hG,hσ0.trans hσ,fun b o v e=>(hnew' b o v e).elim (hnew b o v) .inr,hrel,?_,?_,?_,hnc.trans hnc'⟩
 ·intro n u e
  cases dst with
  | none =>
   cases dst' with
   | some _=>cases hd
   | none=>exact (hE n u e).mono hG hσ
  | some d =>
   cases dst' with
   | none=>cases hd
   | some d' =>
    simp only [Bool.and_eq_true,beq_iff_eq,decide_eq_true_eq] at hd
    obtain ⟨rfl,hlt⟩:=hd
    rw [eval_put_tmp (by omega)]
    simp only [putE,look] at e
    split at e
    ·rename_i h;cases e;rw [if_pos h];exact hv
    ·rename_i h;rw [if_neg h];exact (hE n u e).mono hG hσ
 ·cases dst <;> simp [Act.put,hsz]
 ·cases dst <;> exact hds.nc hnc'
theorem rdR_env {E:Env} {a:Act} {G:Gm} {σ:Sg} (hE:∀ n v,look n E = some v→VR G σ v (a.eval (.tmp n))):RdR G σ a (rdE E):=by
 intro X x hok v hv
 unfold okOpd at hok
 split at hok
 ·simp at hok;subst hok;exact hE _ _ hv
 ·simp [rdE] at hv;subst hv;exact .deep (valIs_dr hok)
 ·simp at hok;subst hok;simp [rdE] at hv;subst hv;exact .deep (DR.clo (G:=G) (fn:=.func _) .nil .nil)
 ·cases hok
variable {P:Program} {F:Fence} {n:Nat}
theorem wpIn_enter (hF:FOk F) {o:Oper} {a:Act} {w:World} {next:Act→World→Prop} {Q:Exit→Act→World→Prop} {f:FuncId} {args:Array Value} (hnd:∀ c,o.op≠.defer c)
  (hr:(execOp a.eval o).run P w = .ok (.enter f args) w)
  (hc:CallsIn Fence.wide 0 P f args w fun e w'=>∃ x,e = .returned x∧next (a.put o.dst x) w'):o.wpIn F n P a w next Q:=by
 refine ⟨fun f _=>hF.fn f,?_⟩
 rw [Oper.semAt_eq _ _ _ hnd,hr,Oper.uponIn_enter]
 refine ⟨fun h=>(by rw [hF.depth] at h;cases h),hF.calls (hc.mono ?_)⟩
 rintro e w' ⟨x,rfl,h⟩
 exact h
theorem wpIn_value (hF:FOk F) {o:Oper} {a:Act} {w w':World} {next:Act→World→Prop} {Q:Exit→Act→World→Prop} {x:Value} (hnd:∀ c,o.op≠.defer c)
  (hr:(execOp a.eval o).run P w = .ok (.value x) w'∨((execOp a.eval o).run P w = .ok .skip w'∧x = undef)) (hc:next (a.put o.dst x) w'):o.wpIn F n P a w next Q:=by
 refine ⟨fun f _=>hF.fn f,?_⟩
 rw [Oper.semAt_eq _ _ _ hnd]
 rcases hr with hr | ⟨hr,rfl⟩
 ·rw [hr];exact hc
 ·rw [hr];exact hc
theorem callW_sound (hF:FOk F) {Γ:Cx} (hY:YOk P Γ.w0 Y Γ.G0 Γ.σ0 Γ.wE) {A:Nat→Prop} {E:Env} {H:Hp} {a:Act} {w:World} {o:Oper} {dst':Option Nat} {fl:Nat} {f:FuncId} {vs:List V} {id top:Nat} {K:V→Hp→Nat→Prop} {next:Act→World→Prop} {Q:Exit→Act→World→Prop}
  {G:Gm} {σ:Sg} {vals:List Value}
  (hd:(match o.dst,dst' with | none,none=>true | some d,some d'=>d == d' && decide (d < Γ.nt) | _,_=>false) = true) (hnd:∀ c,o.op≠.defer c)
  (hid:∀ j,id≤j→j < id+8→¬ A j) (htop:∀ j,top≤j→¬ A j) (hn0:Γ.nx0≤id) (hit:id+8≤top)
  (hG0:GExt Γ.G0 G) (hσ0:SExt Γ.σ0 σ) (hnew:∀ b o v,G b o = some v→Γ.G0 b o = some v∨Γ.w0.heap.size≤b) (hrel:Rel Γ.w0 G σ H (fun o=>Γ.D0 o∨A o) w)
  (hE:∀ n v,look n E = some v→VR G σ v (a.eval (.tmp n))) (hsz:a.tmps.size = Γ.nt) (hds:MarksOk Γ.wE a.defers w) (hnc:NC Γ.wE w)
  (hvs:VRL G σ vs vals) (hr:Goes P f→(execOp a.eval o).run P w = .ok (.enter f vals.toArray) w)
  (hw:CallW P Y fl f vs H id top K)
  (hnext:∀ v H' top' a' w',K v H' top'→top≤top'→SRr Γ (fun j=>A j∨(id≤j∧j < id+8)∨(top≤j∧j < top')) (putE dst' v E) H' a' w'→next a' w') :
  o.wpIn F n P a w next Q:=by
 unfold CallW at hw
 split at hw
 ·obtain ⟨ds,H1,R,hm,hp,_,hk⟩:=hw
  obtain ⟨hx,G1,hG1,hn1,hr1,hd1⟩:=mapS_sound (fun v x d G H H' e h1 h2=>frz_sound 12 v x d G H H' e h1 h2) hm hrel hvs
  refine wpIn_enter hF hnd (hr hp.1) ((hp.2 G1 w vals hr1.gok hd1).mono ?_)
  rintro e w' ⟨r,x,rfl,hR,hb,G2,bs,hG2,hok2,hn2,hown,hnd⟩
  obtain ⟨d,ht,hK⟩:=hk r hR
  have hr2:=hr1.after hb hG2 hok2 hn2
  have haw:Away σ H1 bs:=fun b hb hl=>absurd (hl.lt hr1) (by have:=hown.lo b hb;omega)
  have hr3:=hr2.thaw haw
  have hdr:=thaw_sound hok2 4 hown (fun b hb=>hb) ht
  have hw0:Γ.w0.heap.size≤w.heap.size:=hrel.old.size
  refine ⟨x,rfl,hnext _ _ _ _ _ hK (Nat.le_refl _) (SRr.put hd hG0 hσ0 hnew hE hsz hds hnc ((hG1.trans hG2).trans (Gm.with_ext hok2 bs)) (SExt.refl _) (fun b o v e=>?_) (hr3.weaken fun j hj=>hj.imp (fun h=>h) .inl) (NC.of_below hb) (.deep hdr))⟩
  simp only [Gm.with] at e
  split at e
  ·rename_i hin;have:=hown.lo b hin;exact .inr (by omega)
  ·rcases hn2 _ _ _ e with e | e
   ·rcases hn1 _ _ _ e with e | e
    ·exact .inl e
    ·exact .inr (e.le hrel)
   ·exact .inr (by omega)
 ·obtain ⟨ds,H1,R,hm,hp,_,hk⟩:=hw
  obtain ⟨hx,G1,hG1,hn1,hr1,hd1⟩:=mapS_sound (fun v x d G H H' e h1 h2=>frz_sound 12 v x d G H H' e h1 h2) hm hrel hvs
  refine wpIn_enter hF hnd (hr hp.1) ((hp.2 G1 w vals hr1.gok hd1).mono ?_)
  rintro e w' ⟨r,x,rfl,hR,hb,G2,bs,hG2,hok2,hn2,hown,hnd⟩
  obtain ⟨r',H2,id',ho,hle,hK⟩:=hk r hR
  have hr2:=hr1.after hb hG2 hok2 hn2
  have haw:Away σ H1 bs:=fun b hb hl=>absurd (hl.lt hr1) (by have:=hown.lo b hb;omega)
  have hw0:Γ.w0.heap.size≤w.heap.size:=hrel.old.size
  -- the ids from 'id' on
  have hr2':Rel Γ.w0 G2 σ H1 (fun j=>(Γ.D0 j∨A j)) w':=hr2
  obtain ⟨σ3,hs3,hr3,hv3⟩:∃ σ3,SExt σ σ3∧Rel Γ.w0 G2 σ3 H2 (fun j=>(Γ.D0 j∨A j)∨(id≤j∧j < id+8)) w'∧VR G2 σ3 r' x:=by
   have le1:=opn_le 3 ho
   obtain ⟨_,σ3,hs3,hr3,_,hv3⟩:=opn_sound 3 r x r' σ H1 H2 _ id id' bs ho hr2' (fun j h1 h2 hj=>by
    rcases hj with hj | hj
    ·exact Γ.hD0 j (by omega) hj
    ·exact hid j h1 (by omega) hj) (hown.low hw0) hnd haw
   exact ⟨σ3,hs3,hr3.weaken fun j hj=>hj.imp (fun h=>h) (fun h=>⟨h.1,by omega⟩),hv3⟩
  refine ⟨x,rfl,hnext _ _ _ _ _ hK (Nat.le_refl _) (SRr.put hd hG0 hσ0 hnew hE hsz hds hnc (hG1.trans hG2) hs3 (fun b o v e=>?_) (hr3.weaken fun j hj=>?_) (NC.of_below hb) hv3)⟩
  ·rcases hn2 _ _ _ e with e | e
   ·rcases hn1 _ _ _ e with e | e
    ·exact .inl e
    ·exact .inr (e.le hrel)
   ·exact .inr (by omega)
  ·rcases hj with (hj | hj) | hj
   ·exact .inl hj
   ·exact .inr (.inl hj)
   ·exact .inr (.inr (.inl hj))
 ·obtain ⟨R,hp,_,hk⟩:=hw
  refine wpIn_enter hF hnd (hr hp.1) ((hp.2 Γ.w0 w G σ _ vals hrel (fun j hj hD=>?_) hvs (hY.mono Γ.hwE hG0 hσ0 hnc)).mono ?_)
  ·rcases hD with hD | hD
   ·exact Γ.hD0 j (by omega) hD
   ·exact htop j hj hD
  rintro e w' ⟨r,x,H',top',G',σ',rfl,hR,hle,hdom,hnc',hG',hn',hs',hrel',hv⟩
  refine ⟨x,rfl,hnext _ _ _ _ _ (hk _ _ _ hR hle hdom) hle (SRr.put hd hG0 hσ0 hnew hE hsz hds hnc hG' hs' hn' (hrel'.weaken fun j hj=>?_) hnc' hv)⟩
  rcases hj with (hj | hj) | hj
  ·exact .inl hj
  ·exact .inr (.inl hj)
  ·exact .inr (.inr (.inr hj))
theorem okOpds_eval {a:Act} {G:Gm} {σ:Sg} {rd:Opd→Option V} (hrd:RdR G σ a rd) {args:Array Operand} {xs:List Opd} (hok:okOpds args.toList xs = true) {vs:List V} (h:rdL rd xs = some vs) :
  ∃ vals,VRL G σ vs vals∧(args.map a.eval) = vals.toArray:=⟨_,rdL_vrl hrd hok h,by cases args;simp⟩
theorem run_call_value {o:Oper} {a:Act} {w:World} {x:Operand} {args:Array Operand} {ats:Array TypeId} (ho:o.op = .call { callee:=.value x,args:=args,argTypes:=ats }) {f:FuncId} {vf vc:List Value} {vals:List Value}
  (hx:a.eval x = .func (.func f) vf.toArray vc.toArray) (hv:args.map a.eval = vals.toArray) (hg:Goes P f):(execOp a.eval o).run P w = .ok (.enter f (vf++vals++vc).toArray) w:=by
 have:=hg (vf++vals++vc).toArray w
 simp only [execOp,ho,resolve,hx,hv,Deferred.ofValue,Sem.run_bind,Sem.run_pure,Result.andThen,invoke]
 simpa using this
theorem run_call_method {o:Oper} {a:Act} {w:World} {c:Call} (ho:o.op = .call c) {t:TypeId} {name:String} {f:FuncId} {y:Value} {vals:List Value} {cp:Array Value}
  (hres:(resolve a.eval c o.type).run P w = .ok { target:=.fn (.method name) cp,args:=(Value.iface t y::vals).toArray } w) (hm:MethP P t name f) (hg:Goes P f) :
  (execOp a.eval o).run P w = .ok (.enter f (y::vals).toArray) w:=by
 have h1:=hg (y::vals).toArray w
 have h2:=hm y w
 have h3:(invoke (.fn (.method name) cp) (Value.iface t y::vals).toArray).run P w = .ok (.enter f (y::vals).toArray) w:=by
  simp [invoke,callMethod,Sem.run_bind,program,Sem.run,h2]
  exact h1
 simp only [execOp,ho,Sem.run_bind,hres,Result.andThen]
 exact h3
theorem okCallee_call {c:Call} {f:FuncId} {xs:List Opd} (h:okCallee c (.call f xs) = true):∃ cargs cats,c = { callee:=.value (.func f),args:=cargs,argTypes:=cats }∧okOpds cargs.toList xs = true:=by
 obtain ⟨callee,cargs,cats⟩:=c
 unfold okCallee at h
 split at h
 ·rename_i h1 h2;cases h1;cases h2
  simp only [Bool.and_eq_true,beq_iff_eq] at h
  obtain ⟨rfl,h⟩:=h
  exact ⟨_,_,rfl,h⟩
 ·rename_i h2;cases h2
 ·rename_i h2;cases h2
 ·cases h
theorem okCallee_callv {c:Call} {g:Opd} {xs:List Opd} (h:okCallee c (.callv g xs) = true):∃ x cargs cats,c = { callee:=.value x,args:=cargs,argTypes:=cats }∧okOpd x g = true∧okOpds cargs.toList xs = true:=by
 obtain ⟨callee,cargs,cats⟩:=c
 unfold okCallee at h
 split at h
 ·rename_i h2;cases h2
 ·rename_i h1 h2;cases h1;cases h2
  simp only [Bool.and_eq_true] at h
  exact ⟨_,_,_,rfl,h.1,h.2⟩
 ·rename_i h2;cases h2
 ·cases h
theorem okCallee_inv {c:Call} {name:String} {r:Opd} {xs:List Opd} (h:okCallee c (.inv name r xs) = true):∃ x cargs cats,c = { callee:=.invoke x name,args:=cargs,argTypes:=cats }∧okOpd x r = true∧okOpds cargs.toList xs = true:=by
 obtain ⟨callee,cargs,cats⟩:=c
 unfold okCallee at h
 split at h
 ·rename_i h2;cases h2
 ·rename_i h2;cases h2
 ·rename_i h1 h2;cases h1;cases h2
  simp only [Bool.and_eq_true,beq_iff_eq] at h
  obtain ⟨⟨rfl,h1⟩,h2⟩:=h
  exact ⟨_,_,_,rfl,h1,h2⟩
 ·cases h
theorem wpIn_round (hF:FOk F) {o:Oper} {a:Act} {w:World} {next:Act→World→Prop} {Q:Exit→Act→World→Prop} {l:Nat} {f:FuncId} {tmps:Array Value} {asg body:Code} (hnd:∀ c,o.op≠.defer c)
  (hr:(execOp a.eval o).run P w = .ok (.round l f tmps asg body) w)
  (hc:RoundIn Fence.wide 0 P l f tmps asg body w fun e w'=>∃ x,e = .returned x∧next (a.put o.dst x) w'):o.wpIn F n P a w next Q:=by
 refine ⟨fun f _=>hF.fn f,?_⟩
 rw [Oper.semAt_eq _ _ _ hnd,hr,Oper.uponIn_round]
 refine ⟨fun h=>(by rw [hF.depth] at h;cases h),hF.round (hc.mono ?_)⟩
 rintro e w' ⟨x,rfl,h⟩
 exact h
theorem run_call_yield {o:Oper} {a:Act} {w:World} {x:Operand} {args:Array Operand} {ats:Array TypeId} (ho:o.op = .call { callee:=.value x,args:=args,argTypes:=ats }) {l:Nat} {vals:List Value}
  (hx:a.eval x = .func (.yield l) #[] #[]) (hv:args.map a.eval = vals.toArray):(execOp a.eval o).run P w = (Instr.yield l vals.toArray).run P w:=by
 simp only [execOp,ho,resolve,hx,hv,Deferred.ofValue,Sem.run_bind,Sem.run_pure,Result.andThen,invoke]
 simp
theorem VR.yld_inv {G:Gm} {σ:Sg} {o:Nat} {x:Value} (h:VR G σ (.yld o) x):∃ B,σ o 0 = some (some B)∧x = .func (.yield B.b) #[] #[]:=by
 cases h with
 | deep h=>cases h
 | yld hs=>exact ⟨_,hs,rfl⟩
theorem exec_sound (hF:FOk F) {Γ:Cx} (hY:YOk P Γ.w0 Y Γ.G0 Γ.σ0 Γ.wE) {A:Nat→Prop} {E:Env} {H:Hp} {a:Act} {w:World} {ops:Array Oper} {o:Oper} {io:Opr} {nx top:Nat} {K:V→Hp→Nat→Prop} {next:Act→World→Prop} {Q:Exit→Act→World→Prop}
  (hok:okIO P Γ.nt ops o io = true) (hid:∀ j,nx+8 * io.i≤j→j < nx+8 * io.i+8→¬ A j) (htop:∀ j,top≤j→¬ A j) (hn0:Γ.nx0≤nx) (hit:nx+8 * io.i+8≤top)
  (hs:SRr Γ A E H a w) (hw:execIO P Y io E H nx top K)
  (hnext:∀ v H' top' a' w',K v H' top'→top≤top'→SRr Γ (fun j=>A j∨(nx+8 * io.i≤j∧j < nx+8 * io.i+8)∨(top≤j∧j < top')) (putE io.dst v E) H' a' w'→next a' w') :
  o.wpIn F n P a w next Q:=by
 obtain ⟨G,σ,hG0,hσ0,hnew,hrel,hE,hsz,hds,hnc⟩:=hs
 have hrd:=rdR_env hE
 unfold okIO at hok
 simp only [Bool.and_eq_true] at hok
 obtain ⟨⟨hd,hg⟩,hop⟩:=hok
 have call:∀ {fl f vs vals},(∀ c,o.op≠.defer c)→VRL G σ vs vals→(Goes P f→(execOp a.eval o).run P w = .ok (.enter f vals.toArray) w)→CallW P Y fl f vs H (nx+8 * io.i) top K→o.wpIn F n P a w next Q :=
  fun hnd hvs hr hcw=>callW_sound hF hY hd hnd hid htop (by omega) hit hG0 hσ0 hnew hrel hE hsz hds hnc hvs hr hcw hnext
 have plain:(∀ c,o.op≠.defer c)→okOp P o.op io.op = true→(match stepOp io.op (rdE E) H (nx+8 * io.i) with | some r=>K r.1 r.2 top | none=>False)→o.wpIn F n P a w next Q:=by
  intro hnd hok hst
  split at hst
  ·rename_i r hr
   obtain ⟨v,H'⟩:=r
   obtain ⟨x,w',σ',hx,hnc',hs',hrel',hv⟩:=step_sound hrd hok (fun hD=>by
    rcases hD with hD | hD
    ·exact Γ.hD0 _ (by omega) hD
    ·exact hid _ (Nat.le_refl _) (by omega) hD) hrel hr
   refine wpIn_value hF hnd hx (hnext _ _ _ _ _ hst (Nat.le_refl _) (SRr.put hd hG0 hσ0 hnew hE hsz hds hnc (GExt.refl _) hs' (fun b o v e=>.inl e) (hrel'.weaken fun j hj=>?_) hnc' hv))
   rcases hj with (hj | hj) | hj
   ·exact .inl hj
   ·exact .inr (.inl hj)
   ·exact .inr (.inr (.inl (by omega)))
  ·exact hst.elim
 have hcal:io.op.isCall = true→∃ c,o.op = .call c∧okCallee c io.op = true:=by
  intro hc
  split at hop
  ·rename_i he;rw [he] at hc;cases hc
  ·rw [if_pos hc] at hop
   split at hop
   ·rename_i c hc';exact ⟨c,hc',hop⟩
   ·cases hop
 have hpl:io.op.nd = false→(∀ c,o.op≠.defer c)∧okOp P o.op io.op = true:=by
  intro hc
  split at hop
  ·rename_i he;rw [he] at hc;cases hc
  ·have hc' : io.op.isCall = false := by cases hh : io.op <;> rw [hh] at hc <;> first | rfl | cases hc
   rw [hc'] at hop
   simp only [Bool.false_eq_true,if_false,Bool.and_eq_true] at hop
   refine ⟨fun c hc'=>?_,hop.1⟩
   have:=hop.2
   rw [hc'] at this
   cases this
 unfold execIO at hw
 split at hw
 ·rename_i f args heq
  obtain ⟨c,hc,hcl⟩:=hcal (by rw [heq];rfl)
  have hnd:∀ c,o.op≠.defer c:=fun c' h=>by rw [hc] at h;cases h
  split at hw
  ·rename_i vs hvs
   rw [heq] at hcl
   obtain ⟨cargs,cats,rfl,ho⟩:=okCallee_call hcl
   obtain ⟨vals,hv,he⟩:=okOpds_eval hrd ho hvs
   exact call hnd hv (fun hg=>by simpa using run_call_value hc (vf:=[]) (vc:=[]) rfl he hg) hw
  ·exact hw.elim
 ·rename_i g args heq
  obtain ⟨c,hc,hcl⟩:=hcal (by rw [heq];rfl)
  have hnd:∀ c,o.op≠.defer c:=fun c' h=>by rw [hc] at h;cases h
  rw [heq] at hcl
  obtain ⟨x,cargs,cats,rfl,hx,ho⟩:=okCallee_callv hcl
  split at hw
  ·rename_i f first caps hg'
   split at hw
   ·rename_i vs hvs
    obtain ⟨vals,hv,he⟩:=okOpds_eval hrd ho hvs
    obtain ⟨vf,vc,hfx,hvf,hvc⟩:=(hrd x g hx _ hg').clo_inv
    exact call hnd ((hvf.append hv).append hvc) (fun hg=>run_call_value hc hfx he hg) hw
   ·exact hw.elim
  ·rename_i name t y first caps hg'
   split at hw
   ·rename_i vs hvs
    obtain ⟨f,hm,hw⟩:=hw
    obtain ⟨vals,hv,he⟩:=okOpds_eval hrd ho hvs
    obtain ⟨vf,vc,hfx,hvf,hvc⟩:=(hrd x g hx _ hg').clo_inv
    cases hvf with
    | cons hy ht =>
     obtain ⟨z,rfl,hz⟩:=hy.ifc_inv
     exact call hnd (.cons hz (ht.append hv)) (fun hg=>run_call_method hc (by simp [resolve,hfx,he,Deferred.ofValue];rfl) hm hg) hw
   ·exact hw.elim
  ·rename_i ow hg'
   split at hw
   ·rename_i vs hvs
    obtain ⟨_,y,K0,hy,hk0,hw⟩:=hw
    obtain ⟨vals,hv,he⟩:=okOpds_eval hrd ho hvs
    obtain ⟨B,hB,hfx⟩:=(hrd x g hx _ hg').yld_inv
    obtain ⟨B',hB',hy'⟩:=hY.2 _ _ hy
    rw [hσ0 _ _ _ hB'] at hB;cases hB
    obtain ⟨f,tmps,asg,body,hr,hrd'⟩:=hy' w G σ H _ vs vals top K0 hG0 hσ0 hnc Γ.hwE hrel (fun j hj hD=>by
     rcases hD with hD | hD
     ·exact Γ.hD0 j (by omega) hD
     ·exact htop j hj hD) hv hw
    refine wpIn_round hF hnd ((run_call_yield hc hfx he).trans hr) (hrd'.mono ?_)
    rintro e w' ⟨r,x,H',top',G',σ',rfl,hR,hle,hdom,hnc',hG',hn',hs',hrel',hv'⟩
    refine ⟨x,rfl,hnext _ _ _ _ _ (hk0 _ _ _ hR hle hdom) hle (SRr.put hd hG0 hσ0 hnew hE hsz hds hnc hG' hs' hn' (hrel'.weaken fun j hj=>?_) hnc' hv')⟩
    rcases hj with (hj | hj) | hj
    ·exact .inl hj
    ·exact .inr (.inl hj)
    ·exact .inr (.inr (.inr hj))
   ·exact hw.elim
  ·exact hw.elim
 ·rename_i name r args heq
  obtain ⟨c,hc,hcl⟩:=hcal (by rw [heq];rfl)
  have hnd:∀ c,o.op≠.defer c:=fun c' h=>by rw [hc] at h;cases h
  rw [heq] at hcl
  obtain ⟨x,cargs,cats,rfl,hx,ho⟩:=okCallee_inv hcl
  split at hw
  ·rename_i t y hr'
   split at hw
   ·rename_i vs hvs
    obtain ⟨f,hm,hw⟩:=hw
    obtain ⟨vals,hv,he⟩:=okOpds_eval hrd ho hvs
    obtain ⟨z,hz,hzv⟩:=(hrd x r hx _ hr').ifc_inv
    exact call hnd (.cons hzv hv) (fun hg=>run_call_method hc (by simp [resolve,hz,he];rfl) hm hg) hw
   ·exact hw.elim
  ·exact hw.elim
 ·rename_i neg x y heq
  rw [heq] at hop
  simp only [okEqa] at hop
  split at hop
  ·rename_i b t X Y u hob
   simp only [Bool.and_eq_true] at hop
   obtain ⟨⟨⟨hb,hx⟩,hy⟩,ht⟩:=hop
   have hnd:∀ c,o.op≠.defer c:=fun c' h=>by rw [hob] at h;cases h
   have fin:∀ {r:Bool},NilK 1 (a.eval X) (a.eval Y) r→K (.bool (r != neg)) H top→o.wpIn F n P a w next Q:=fun {r} hn hk =>
    wpIn_value hF hnd (.inl (run_eqn hob hb hn ht)) (hnext _ _ _ _ _ hk (Nat.le_refl _) (SRr.put hd hG0 hσ0 hnew hE hsz hds hnc (GExt.refl _) (SExt.refl _) (fun b o v e=>.inl e) (hrel.weaken fun j hj=>hj.imp (fun h=>h) .inl) (NC.refl _) (.deep (.bool _))))
   split at hw
   ·rename_i v hv hv'
    have hY:=hrd Y y hy _ hv'
    split at hw
    ·rename_i r hr
     exact fin (isNil_sound hrel (b:=.nils) rfl hY (hrd X x hx _ hv) hr) hw
    ·obtain ⟨hs,h1,h2⟩:=hw
     obtain ⟨ad,m,c,he⟩:=slike_inv hs (hrd X x hx _ hv)
     have hy0:a.eval Y = .slice none 0 0:=by
      generalize a.eval Y = YY at hY
      cases hY with | deep h=>cases h;rfl
     have hn:NilK 1 (a.eval X) (a.eval Y) ad.isNone:=by rw [he,hy0];exact .s _ _ _
     refine fin hn ?_
     cases hb2:ad.isNone with
     | true=>exact h1 (nil0_of (he ▸ hrd X x hx _ hv) hb2)
     | false=>exact h2
   ·exact hw.elim
  ·cases hop
 ·rename_i h1 h2 h3 h4
  have hc:io.op.nd = false:=by
   cases hh:io.op <;> first | rfl | exact absurd hh (h1 _ _) | exact absurd hh (h2 _ _) | exact absurd hh (h3 _ _ _) | exact absurd hh (h4 _ _ _)
  exact plain (hpl hc).1 (hpl hc).2 hw
theorem vr_undef {G:Gm} {σ:Sg}:VR G σ V.undef undef:=.deep (DR.tup (G:=G) .nil)
theorem eval_bool {a:Act} {s:Nat} {c:Bool} (h:a.eval (.tmp s) = .bool c):a.tmps[s]? = some (.bool c):=by
 simp only [Act.eval,Array.getD_eq_getD_getElem?] at h
 cases e:a.tmps[s]? with
 | none=>rw [e] at h;cases h
 | some v=>rw [e] at h;simp at h;rw [h]
theorem eval_tup {a:Act} {s:Nat} {c:Array Value} (h:a.eval (.tmp s) = .tuple c):∀ b,a.tmps[s]?≠some (.bool b):=by
 intro b e
 simp [Act.eval,Array.getD_eq_getD_getElem?,e] at h
theorem okGuard_some {ops:Array Oper} {g:Option (Nat × Bool)} {s:Nat} {b:Bool} (h:okGuard ops g (some (s,b)) = true):∃ j,g = some (j,b)∧(ops[j]?).bind (·.dst) = some s:=by
 unfold okGuard at h
 split at h
 ·rename_i h2;cases h2
 ·rename_i h1 h2;cases h2
  simp only [Bool.and_eq_true,beq_iff_eq] at h
  obtain ⟨rfl,h⟩:=h
  refine ⟨_,rfl,?_⟩
  split at h
  ·rename_i o ho
   rw [ho,Option.bind_some]
   split at h
   ·rename_i d hd;simp only [beq_iff_eq] at h;rw [hd,h]
   ·cases h
  ·cases h
 ·cases h
theorem op1_sound (hF:FOk F) {Γ:Cx} (hY:YOk P Γ.w0 Y Γ.G0 Γ.σ0 Γ.wE) {A:Nat→Prop} {E:Env} {H:Hp} {a:Act} {w:World} {ops:Array Oper} {o:Oper} {io:Opr} {nx top:Nat} {K:Env→Hp→Nat→Prop} {next:Act→World→Prop} {Q:Exit→Act→World→Prop}
  (ho:ops[io.i]? = some o) (hok:okIO P Γ.nt ops o io = true) (hid:∀ j,nx+8 * io.i≤j→j < nx+8 * io.i+8→¬ A j) (htop:∀ j,top≤j→¬ A j) (hn0:Γ.nx0≤nx) (hit:nx+8 * io.i+8≤top)
  (hs:SRr Γ A E H a w) (hw:wpOp1 P Y nx io E H top K)
  (hnext:∀ E' H' top' a' w',K E' H' top'→top≤top'→SRr Γ (fun j=>A j∨(nx+8 * io.i≤j∧j < nx+8 * io.i+8)∨(top≤j∧j < top')) E' H' a' w'→next a' w') :
  wpOpIn F n P ops Q io.i next a w:=by
 have hok':=hok
 unfold okIO at hok
 simp only [Bool.and_eq_true] at hok
 obtain ⟨⟨hd,hg⟩,_⟩:=hok
 have skip:K (putE io.dst V.undef E) H top→next (a.put o.dst undef) w:=by
  intro hk
  obtain ⟨G,σ,hG0,hσ0,hnew,hrel,hE,hsz,hds,hnc⟩:=hs
  exact hnext _ _ _ _ _ hk (Nat.le_refl _) (SRr.put hd hG0 hσ0 hnew hE hsz hds hnc (GExt.refl _) (SExt.refl _) (fun b o v e=>.inl e) (hrel.weaken fun j hj=>hj.imp (fun h=>h) .inl) (NC.refl _) vr_undef)
 unfold wpOpIn
 simp only [ho]
 unfold wpOp1 at hw
 split at hw
 ·rename_i hgn
  rw [hgn] at hg
  have hgo:o.guard = none:=by
   cases e:o.guard with
   | none=>rfl
   | some p=>rw [e] at hg;simp [okGuard] at hg
  rw [if_pos (by simp [Region.wanted,hgo])]
  exact exec_sound hF hY hok' hid htop hn0 hit hs hw (fun v H' t' a' w'=>hnext _ _ _ _ _)
 ·rename_i s b hgs
  rw [hgs] at hg
  obtain ⟨j,hgo,hj⟩:=okGuard_some hg
  obtain ⟨G,σ,hG0,hσ0,hnew,hrel,hE,hsz,hds,hnc⟩:=id hs
  split at hw
  ·rename_i c hc
   have hb:=eval_bool (hE s _ hc).bool_inv
   have hy:yielded ops a.tmps j = some c:=by simp [yielded,hj,hb]
   split at hw
   ·rename_i hcb
    rw [if_pos (by simp [Region.wanted,hgo,hy,hcb])]
    exact exec_sound hF hY hok' hid htop hn0 hit hs hw (fun v H' t' a' w'=>hnext _ _ _ _ _)
   ·rename_i hcb
    rw [if_neg (by simp [Region.wanted,hgo,hy,hcb])]
    exact ⟨fun f _=>hF.fn f,skip hw⟩
  ·rename_i l hc
   obtain ⟨vs,hvs,_⟩:=(hE s _ hc).tup_inv
   have hb:=eval_tup hvs
   have hy:yielded ops a.tmps j = none:=by
    unfold yielded
    rw [hj,Option.bind_some]
    split
    ·rename_i b' e;exact absurd e (hb b')
    ·rfl
   rw [if_neg (by simp [Region.wanted,hgo,hy])]
   exact ⟨fun f _=>hF.fn f,skip hw⟩
  ·exact hw.elim
theorem ops_sound (hF:FOk F) {Γ:Cx} (hY:YOk P Γ.w0 Y Γ.G0 Γ.σ0 Γ.wE) {ops:Array Oper} {nx:Nat} {K:Env→Hp→Nat→Prop} {Q:Exit→Act→World→Prop} (hn0:Γ.nx0≤nx) :
  ∀ (l:List Opr) (k:Nat) (E:Env) (H:Hp) (top:Nat) (a:Act) (w:World),k≤ops.size→okOps P Γ.nt ops k (ops.toList.drop k) l = true→nx+8 * ops.size≤top →
   SRr Γ (fun j=>(Γ.nx0≤j∧j < nx+8 * k)∨(nx+8 * ops.size≤j∧j < top)) E H a w→wpOps P Y nx l E H top K →
   (∀ E' H' top' a' w',K E' H' top'→top≤top'→SRr Γ (fun j=>Γ.nx0≤j∧j < top') E' H' a' w'→Q .normal a' w')→wpOpsIn F n P ops Q ((List.range ops.size).drop k) a w
 | [],k,E,H,top,a,w,hk0,hok,htop,hs,hw,hq=>by
  have hk:ops.size≤k:=by
   cases e:ops.toList.drop k with
   | nil=>simpa using e
   | cons x xs=>rw [e] at hok;simp [okOps] at hok
  rw [List.drop_eq_nil_of_le (by simpa using hk)]
  simp only [wpOpsIn]
  exact hq _ _ _ _ _ hw (Nat.le_refl _) (hs.weaken fun j hj=>by omega)
 | io::l,k,E,H,top,a,w,hk0,hok,htop,hs,hw,hq=>by
  cases e:ops.toList.drop k with
  | nil=>rw [e] at hok;simp [okOps] at hok
  | cons o os =>
   rw [e] at hok
   simp only [okOps,Bool.and_eq_true,beq_iff_eq] at hok
   obtain ⟨⟨hi,hio⟩,hrest⟩:=hok
   have hk:k < ops.size:=by
    have:=congrArg List.length e
    simp at this;omega
   have ho:ops[io.i]? = some o:=by
    have h1:(ops.toList.drop k)[0]? = some o:=by rw [e];rfl
    rw [List.getElem?_drop] at h1
    rw [hi];simpa using h1
   have hos:os = ops.toList.drop (k+1):=by
    have h1:(ops.toList.drop k).tail = os:=by rw [e];rfl
    rw [← h1,List.tail_drop]
   rw [List.drop_eq_getElem_cons (by simpa using hk),List.getElem_range,wpOpsIn_cons,← hi]
   refine op1_sound hF hY ho hio (fun j h1 h2 h3=>by omega) (fun j h1 h2=>by omega) hn0 (by omega) hs hw ?_
   intro E' H' top' a' w' hw' hle hs'
   rw [hi]
   exact ops_sound hF hY hn0 l (k+1) E' H' top' a' w' hk (by rw [← hos];exact hrest) (by omega) (hs'.weaken fun j hj=>by omega) hw' (fun E'' H'' t'' a'' w'' hk' hle'=>hq _ _ _ _ _ hk' (by omega))
end Go.Dp
