import Derived.Test.YtgbjppfikncpcaaGreatDpTop
import Derived.RangeFuncRecord
namespace Go.Dp
open Go.RowKit
set_option linter.unusedSimpArgs false
set_option linter.unusedVariables false
variable {Y:Ys}
structure ShutW (lo:Nat) (w w':World):Prop where
 os:w'.os = w.os
 tape:w'.tape = w.tape
 output:w'.output = w.output
 size:w'.heap.size = w.heap.size
 low:∀ b,b < lo→w'.heap[b]? = w.heap[b]?
 cells:∀ (b:Nat) (o:Obj),w.heap[b]? = some o→isC o = true→w'.heap[b]? = some o
theorem ShutW.refl (lo:Nat) (w:World):ShutW lo w w:=⟨rfl,rfl,rfl,rfl,fun _ _=>rfl,fun _ _ h _=>h⟩
theorem ShutW.trans {lo:Nat} {a b c:World} (h:ShutW lo a b) (k:ShutW lo b c):ShutW lo a c :=
 ⟨k.os.trans h.os,k.tape.trans h.tape,k.output.trans h.output,k.size.trans h.size,fun i hi=>(k.low i hi).trans (h.low i hi),fun i o e hc=>k.cells i o (h.cells i o e hc) hc⟩
theorem ShutW.put {lo:Nat} {w:World} {r:Nat} {ds:Option (List Deferred)} (hr:w.heap[r]? = some (.deferred ds)) (hlo:lo≤r) (o:Obj):ShutW lo w (w.putObj r o):=by
 have ne:∀ b,b≠r→(w.putObj r o).heap[b]? = w.heap[b]?:=fun b hb=>by
  simp [World.putObj,Array.getElem?_setIfInBounds_ne (Ne.symm hb)]
 refine ⟨rfl,rfl,rfl,by simp [World.putObj],fun b hb=>ne b (by omega),fun b o h hc=>?_⟩
 rw [ne b (fun e=>by rw [e,hr] at h;cases h;cases hc)];exact h
section
variable {w w' w0:World} {G:Gm} {σ:Sg} {H:Hp} {D:Nat→Prop} {lo:Nat}
theorem ShutW.cell (h:ShutW lo w w') {a:Addr} {v:Value} (e:w.cell? a = some v):w'.cell? a = some v:=by
 unfold World.cell? at e ⊢
 cases hb:w.heap[a.block]? with
 | none=>simp [hb] at e
 | some o =>
  cases o with
  | cells c t fr=>rw [h.cells _ _ hb rfl];simp [hb] at e;exact (by simpa using e)
  | _=>simp [hb] at e
theorem ShutW.gok (h:ShutW lo w w') (hG:GOk G w):GOk G w':=fun b o v e=>h.cell (hG b o v e)
theorem ShutW.below (h:ShutW lo w w'):Below lo w w':=⟨h.os,h.tape,h.output,by rw [h.size];exact Nat.le_refl _,h.low⟩
theorem Rel.shut (hr:Rel w0 G σ H D w) (h:ShutW lo w w') (hlo:w0.heap.size≤lo):Rel w0 G σ H D w':=by
 refine ⟨hr.old.trans (h.below.mono hlo),h.gok hr.gok,hr.dom,hr.hdom,fun o ob e=>?_,hr.inj,hr.vers⟩
 rcases hr.obs o ob e with ⟨B,hB,hl,hob⟩ | hn | ⟨B,hB,hB0,hl,obj,hb,hob⟩
 rotate_left 2
 ·exact .inr (.inr ⟨B,hB,hB0,hl,obj,h.cells _ _ hb (by cases hob <;> rfl),hob⟩)
 ·obtain ⟨c,t,a1,a2⟩:=hob.blk
  exact .inl ⟨B,hB,hl,hob.nl,hob.sp,hob.sz,⟨c,t,h.cells _ _ a1 rfl,a2⟩,hob.gsep⟩
 ·exact .inr (.inl hn)
end
theorem SR.shut {Γ:Cx} {st:St} {a:Act} {w w':World} (hs:SR Γ st a w) (h:ShutW Γ.wE.heap.size w w') (hw:Γ.w0.heap.size≤Γ.wE.heap.size) :
  ∃ G σ,GExt Γ.G0 G∧SExt Γ.σ0 σ∧(∀ b o v,G b o = some v→Γ.G0 b o = some v∨Γ.w0.heap.size≤b)∧Rel Γ.w0 G σ st.H (fun o=>Γ.D0 o∨(Γ.nx0≤o∧o < st.nx)) w' ∧
   (∀ n v,look n st.fr = some v→VR G σ v (a.eval (.tmp n)))∧NC Γ.wE w':=by
 obtain ⟨_,G,σ,a1,a2,a3,a4,a5,a6,a7,a8⟩:=hs
 refine ⟨G,σ,a1,a2,a3,a4.shut h hw,a5,⟨by rw [h.size];exact a8.size,fun b o hb hc=>?_,fun b r hb=>?_⟩⟩
 ·rw [h.low b (Array.getElem?_eq_some_iff.1 hb).1]
  exact a8.oth b o hb hc
 ·rw [h.low b (Array.getElem?_eq_some_iff.1 hb).1]
  exact a8.lp b r hb
variable {P:Program} {n:Nat}
theorem leaves_marks {F:Fence} {fn:Func} {tmps:Array Value} {R:Ending→World→Prop} {wE:World}:∀ (ds:List Deferred) (w:World),MarksOk wE ds w →
  (∀ w',ShutW wE.heap.size w w'→∃ v,(results fn tmps).run P w' = .ok v w'∧R (.returned v) w')→LeavesInM F n P fn tmps R ds .returning w
 | [],w,_,h=>h w (ShutW.refl _ _)
 | d::ds,w,⟨rs,hn,hm,hr⟩,h=>by
  cases rs with
  | nil=>simp at hm
  | cons r rs =>
   simp only [List.map_cons,List.cons.injEq] at hm
   have h1:=hr r (by simp)
   have hsh:=ShutW.put (o:=.deferred none) h1.2 h1.1
   rw [List.nodup_cons] at hn
   refine ⟨by simp,.inl ⟨r,_,hm.1,run_takeDeferred h1.2,leaves_marks ds _ ⟨rs,hn.2,hm.2,fun r' hr'=>⟨(hr r' (by simp [hr'])).1,?_⟩⟩ fun w' hw'=>h w' (hsh.trans hw')⟩⟩
   have hne:r'≠r:=fun e=>hn.1 (e ▸ hr')
   rw [show (w.putObj r (.deferred none)).heap[r']? = w.heap[r']? by simp [World.putObj,Array.getElem?_setIfInBounds_ne (Ne.symm hne)]]
   exact (hr r' (by simp [hr'])).2
inductive RV where
 | tmp (n:Nat)
 | cell (k:Option Nat) (s:Nat)
def rv1 (st:St):RV→Option V
 | .tmp n=>look n st.fr
 | .cell k s=>((look s st.fr).bind (V.cellsAt st.H)).bind (loadV k)
def rvs (st:St):List RV→Option (List V)
 | []=>some []
 | r::l=>(rv1 st r).bind fun v=>(rvs st l).map fun m=>v::m
def resV (st:St):List RV→Option V
 | [r]=>rv1 st r
 | rs=>(rvs st rs).map V.tup
def okRV (P:Program):ResultVar→RV→Bool
 | .tmp t,.tmp n=>t == n
 | .cell a t,.cell k s=>a == s && okShape P t k
 | _,_=>false
def okRVs (P:Program):List ResultVar→List RV→Bool
 | [],[]=>true
 | r::l,s::m=>okRV P r s && okRVs P l m
 | _,_=>false
section
variable {w w0:World} {G:Gm} {σ:Sg} {H:Hp} {D:Nat→Prop}
theorem loadVar_sound (hrel:Rel w0 G σ H D w) {t:TypeId} {p v:V} {x:Value} {k:Option Nat} {c:List V × Nat} (hp:VR G σ p x) (hc:p.cellsAt H = some c) (ht:okShape P t k = true) (hu:loadV k c = some v) :
  ∃ ad y,x = .pointer (some ad)∧(loadVar t ad).run P w = .ok y w∧VR G σ v y:=by
 obtain ⟨cells,off⟩:=c
 obtain ⟨b,base,hx,hcl⟩:=cellsAt_sound hrel hp hc
 refine ⟨⟨b,base+off,none⟩,?_⟩
 unfold okShape at ht
 cases hd:P.underlying t with
 | none=>simp [hd] at ht
 | some d =>
  cases k with
  | none =>
   simp [hd] at ht
   simp only [loadV] at hu
   obtain ⟨y,hy,hr,_⟩:=hcl off v hu
   exact ⟨y,hx,by simp [loadVar,run_isAgg' hd,ht.1,hy],hr⟩
  | some k =>
   simp [hd] at ht
   simp only [loadV] at hu
   split at hu
   ·rename_i hk
    cases hu
    obtain ⟨vs,hvs,hones,hf⟩:=cells_list (f:=fun i=>w.cell? ⟨b,base+off+i,none⟩) (l:=(cells.drop off).take k) (fun i u hu=>by
     rw [List.getElem?_take] at hu
     split at hu
     ·rw [List.getElem?_drop] at hu
      have:=hcl (off+i) u hu
      rwa [← Nat.add_assoc] at this
     ·cases hu)
    have hlen:vs.length = k:=by rw [← hvs.length];simp;omega
    refine ⟨.agg vs.toArray,hx,?_,.agg hvs hones⟩
    have hsz:=ht.2
    unfold sizeIs at hsz
    cases hi:P.info? t with
    | none=>simp [hi] at hsz
    | some i =>
     simp [hi] at hsz
     have hl:=run_loadCells_list (P:=P) w ⟨b,base+off,none⟩ vs (fun j y hy=>by
      rw [show (⟨b,base+off,none⟩:Addr).add j = ⟨b,base+off+j,none⟩ from by unfold Addr.add;split <;> simp_all]
      exact hf j y hy)
     rw [hlen] at hl
     simp [loadVar,run_isAgg' hd,ht.1,run_sizeOf' hi,hsz,hl]
   ·cases hu
def resOne (tmps:Array Value):ResultVar→Sem Value
 | .tmp t=>pure (tmps.getD t undef)
 | .cell a t=>do loadVar t (← asAddr (tmps.getD a undef))
theorem rv_sound (hrel:Rel w0 G σ H D w) {tmps:Array Value} {fr:Env} {nx:Nat} (hE:∀ n v,look n fr = some v→VR G σ v (tmps.getD n undef)) {r:ResultVar} {s:RV} (hok:okRV P r s = true) {v:V} (h:rv1 ⟨fr,H,nx⟩ s = some v) :
  ∃ y,(resOne tmps r).run P w = .ok y w∧VR G σ v y:=by
 cases r with
 | tmp t =>
  cases s <;> simp [okRV] at hok
  subst hok
  exact ⟨_,rfl,hE _ _ h⟩
 | cell a t =>
  cases s <;> simp [okRV] at hok
  obtain ⟨rfl,hok⟩:=hok
  simp only [rv1,Option.bind_eq_some_iff] at h
  obtain ⟨c,⟨p,hp,hc⟩,hl⟩:=h
  obtain ⟨ad,y,hx,hr,hv⟩:=loadVar_sound hrel (hE _ _ hp) hc hok hl
  refine ⟨y,?_,hv⟩
  simp only [resOne,hx,asAddr,Sem.run_bind,Sem.run_pure,Result.andThen_ok]
  exact hr
theorem rvs_sound (hrel:Rel w0 G σ H D w) {tmps:Array Value} {fr:Env} {nx:Nat} (hE:∀ n v,look n fr = some v→VR G σ v (tmps.getD n undef)) :
  ∀ {rs:List ResultVar} {ss:List RV} {vs:List V},okRVs P rs ss = true→rvs ⟨fr,H,nx⟩ ss = some vs→∃ ys,(rs.mapM (resOne tmps)).run P w = .ok ys w∧VRL G σ vs ys
 | [],[],vs,_,h=>by simp [rvs] at h;subst h;exact ⟨[],by simp,.nil⟩
 | r::rs,s::ss,vs,hok,h=>by
  simp only [okRVs,Bool.and_eq_true] at hok
  simp only [rvs,Option.bind_eq_some_iff,Option.map_eq_some_iff] at h
  obtain ⟨v,hv,m,hm,rfl⟩:=h
  obtain ⟨y,hy,hvr⟩:=rv_sound hrel hE hok.1 hv
  obtain ⟨ys,hys,hvs⟩:=rvs_sound hrel hE hok.2 hm
  exact ⟨y::ys,by simp [List.mapM_cons,Sem.run_bind,hy,hys],.cons hvr hvs⟩
 | [],_::_,_,hok,_=>by simp [okRVs] at hok
 | _::_,[],_,hok,_=>by simp [okRVs] at hok
theorem results_eq (fn:Func) (tmps:Array Value):results fn tmps = (fn.results.toList.mapM (resOne tmps)) >>= fun l=>pure (if h:l.toArray.size = 1 then l.toArray[0] else .tuple l.toArray):=by
 unfold results
 rw [Array.mapM_eq_mapM_toList]
 simp only [bind_map_left]
 congr 1
theorem results_sound (hrel:Rel w0 G σ H D w) {fn:Func} {tmps:Array Value} {fr:Env} {nx:Nat} (hE:∀ n v,look n fr = some v→VR G σ v (tmps.getD n undef)) {ss:List RV} (hok:okRVs P fn.results.toList ss = true) {v:V} (h:resV ⟨fr,H,nx⟩ ss = some v) :
  ∃ y,(results fn tmps).run P w = .ok y w∧VR G σ v y:=by
 rw [results_eq]
 unfold resV at h
 split at h
 ·rename_i r
  cases hr:fn.results.toList with
  | nil=>rw [hr] at hok;simp [okRVs] at hok
  | cons r' rest =>
   rw [hr] at hok
   cases rest with
   | cons _ _=>simp [okRVs] at hok
   | nil =>
    simp [okRVs] at hok
    obtain ⟨y,hy,hv⟩:=rv_sound hrel hE hok h
    exact ⟨y,by simp [Sem.run_bind,hy],hv⟩
 ·rename_i hne
  simp only [Option.map_eq_some_iff] at h
  obtain ⟨vs,hvs,rfl⟩:=h
  obtain ⟨ys,hys,hv⟩:=rvs_sound hrel hE hok hvs
  have hlen:ys.length≠1:=by
   rw [← hv.length]
   have hl:∀ {l:List RV} {m:List V},rvs ⟨fr,H,nx⟩ l = some m→m.length = l.length:=by
    intro l
    induction l with
    | nil=>intro m h;simp [rvs] at h;subst h;rfl
    | cons a l ih =>
     intro m h
     simp only [rvs,Option.bind_eq_some_iff,Option.map_eq_some_iff] at h
     obtain ⟨_,_,m',hm,rfl⟩:=h
     simp [ih hm]
   rw [hl hvs]
   intro h1
   obtain ⟨a,ha⟩:=List.length_eq_one_iff.1 h1
   exact hne a ha
  refine ⟨.tuple ys.toArray,?_,.tup hv⟩
  simp [Sem.run_bind,hys,hlen]
end
def argE:Nat→List V→Env
 | _,[]=>[]
 | i,v::l=>(i,v)::argE (i+1) l
def okF (P:Program) (f:FuncId) (np:Nat) (c:C) (rs:List RV):Bool :=
 match P.funcs[f]? with
 | some fn => fn.name != "runtime.NumGoroutine" && (match fn.body with | some code => okC P fn.ntmps c code | none => false) && okRVs P fn.results.toList rs && decide (np ≤ fn.ntmps)
 | none=>false
def retP (rs:List RV) (sh:Sh) (R:V→Prop):Ex→St→Prop
 | .ex _,_=>False
 | _,st=>match resV st rs with
  | some v=>match fin 12 sh v st.H with
   | some r=>R r.1
   | none=>False
  | none=>False
def retR (rs:List RV) (R:V→Hp→Nat→Prop):Ex→St→Prop
 | .ex _,_=>False
 | _,st=>match resV st rs with
  | some v=>∃ H',HS H' st.H∧R v H' st.nx
  | none=>False
theorem look_argE {G:Gm} {σ:Sg} (extra:List Value):∀ {vs:List V} {vals:List Value} (pre:List Value) (n:Nat) (v:V),VRL G σ vs vals→look n (argE pre.length vs) = some v→VR G σ v (((pre++vals++extra).toArray).getD n undef)
 | [],_,pre,n,v,_,e=>by simp [argE,look] at e
 | v0::l,_,pre,n,v,.cons (x:=x0) (m:=m) h t,e=>by
  simp only [argE,look] at e
  split at e
  ·rename_i hn
   subst hn
   cases e
   simp [Array.getD_eq_getD_getElem?]
   exact h
  ·have := look_argE extra (pre ++ [x0]) n v t (by simpa using e)
   simpa using this
theorem Rel.init (w:World) {G:Gm} (hG:GOk G w):Rel w G (fun _ _=>none) (fun _=>none) (fun _=>False) w:=by
 refine ⟨Below.refl _ _,hG,?_,?_,?_,?_,?_⟩
 ·intro _ _ _ e;cases e
 ·intro _ _ e;cases e
 ·intro _ _ e;cases e
 ·intro _ _ _ _ _ _ e;cases e
 ·intro _ _ _ _ e;cases e
theorem args_sr {Γ:Cx} {vs:List V} {vals:List Value} {H:Hp} {w:World} (hrel:Rel Γ.w0 Γ.G0 Γ.σ0 H Γ.D0 w) (hv:VRL Γ.G0 Γ.σ0 vs vals) (hl:vs.length≤Γ.nt) (hE:Γ.wE = w) :
  SR Γ ⟨argE 0 vs,H,Γ.nx0⟩ { tmps:=vals.toArray++Array.replicate (Γ.nt - vals.toArray.size) undef,defers:=[] } w:=by
 have hlen:=hv.length
 refine ⟨Nat.le_refl _,Γ.G0,Γ.σ0,GExt.refl _,SExt.refl _,fun b o v e=>.inl e,hrel.weaken fun j hj=>.inl hj,fun n v e=>?_,by simp;omega,MarksOk.nil _ _,by rw [hE];exact NC.refl _⟩
 have:=look_argE (List.replicate (Γ.nt - vals.length) undef) [] n v hv e
 have he:vals.toArray++Array.replicate (Γ.nt - vals.toArray.size) undef = (vals++List.replicate (Γ.nt - vals.length) undef).toArray:=by simp
 show VR _ _ v ((vals.toArray++Array.replicate (Γ.nt - vals.toArray.size) undef).getD n undef)
 rw [he];simpa using this
theorem pureC_of_wp {f:FuncId} {np:Nat} {c:C} {rs:List RV} {ds:List V} {R:V→Prop} (sh:Sh) (hm:P.follows .mixedOrders = true) (hok:okF P f np c rs = true) (hl:ds.length = np) (h:wp P Ys.none c (retP rs sh R) ⟨argE 0 ds,fun _=>none,0⟩):PureC P f ds R:=by
 unfold okF at hok
 split at hok
 ·rename_i fn hfn
  simp only [Bool.and_eq_true,bne_iff_ne,ne_eq,decide_eq_true_eq] at hok
  obtain ⟨⟨⟨hname,hbody⟩,hres⟩,hnp⟩:=hok
  split at hbody
  ·rename_i code hcode
   refine ⟨goes_of hfn (by simpa using hname) hcode,fun G w vals hG hd=>?_⟩
   let Γ:Cx:={ w0:=w,G0:=G,σ0:=fun _ _=>none,D0:=fun _=>False,nx0:=0,wE:=w,nt:=fn.ntmps,hD0:=fun _ _ h=>h,hwE:=Nat.le_refl _ }
   have hrel:=Rel.init w hG
   have hs:=args_sr (Γ:=Γ) (vs:=ds) (vals:=vals) hrel hd.vrl (by show ds.length≤fn.ntmps;omega) rfl
   have fend:∀ (e:Exit) (a':Act) (w':World) (st:St) (ex:Ex),(∀ id,ex≠.ex id)→retP rs sh R ex st→SR Γ st a' w'→LeavesInM Fence.wide 0 P fn a'.tmps (fun e w'=>∃ r x,e = .returned x∧R r∧ResR G w r x w') a'.defers .returning w':=by
    intro e a' w' st ex hne hk hs'
    obtain ⟨_,_,_,_,_,_,_,_,_,hmk,_⟩:=id hs'
    refine leaves_marks _ _ hmk fun w2 hsh=>?_
    obtain ⟨G',σ',a1,a2,a3,a4,a5,a6⟩:=hs'.shut hsh (Nat.le_refl _)
    have hk':(match resV st rs with | some v=>(match fin 12 sh v st.H with | some r=>R r.1 | none=>False) | none=>False):=by
     cases ex with
     | ex id=>exact absurd rfl (hne id)
     | nm=>exact hk
     | rt=>exact hk
    split at hk'
    ·rename_i v hv
     split at hk'
     ·rename_i r hr
      obtain ⟨d,H2⟩:=r
      obtain ⟨y,hy,hvy⟩:=results_sound a4 (fun n v e=>by simpa [Act.eval] using a5 n v e) hres hv
      obtain ⟨_,G2,bs,hG2,hn2,hr2,_,_,hnd,hown⟩:=fin_sound 12 sh v y d G' st.H H2 hr a4 hvy
      refine ⟨y,hy,d,y,rfl,hk',hr2.old,G2,bs,a1.trans hG2,hr2.gok,fun b o v e=>?_,hown,hnd⟩
      rcases hn2 b o v e with e | e
      ·exact a3 b o v e
      ·exact .inr (e.le a4)
     ·exact hk'.elim
    ·exact hk'.elim
   refine callsIn_of_wp_marks hfn hcode trivial (wpIn_mono (wp_sound hm (Γ:=Γ) (.inl rfl) (fun l e=>by cases e) YOk.none hbody hs h) fun e a' w' hh=>?_)
   cases e with
   | normal=>obtain ⟨st,hk,hs'⟩:=hh;exact fend .normal a' w' st .nm (fun _ h=>by cases h) hk hs'
   | ret=>obtain ⟨st,hk,hs'⟩:=hh;exact fend .ret a' w' st .rt (fun _ h=>by cases h) hk hs'
   | exit id=>obtain ⟨st,hk,hs'⟩:=hh;exact hk.elim
   | goto _=>exact hh.elim
   | panic _=>exact hh.elim
   | outgrown=>exact hh.elim
  ·cases hbody
 ·cases hok
end Go.Dp
namespace Go.Dp
open Go.RowKit
set_option linter.unusedSimpArgs false
set_option linter.unusedVariables false
variable {Y:Ys}
variable {P:Program}
theorem refC_of_wp {f:FuncId} {np:Nat} {c:C} {rs:List RV} {vs:List V} {H:Hp} {top:Nat} {R:V→Hp→Nat→Prop} (hm:P.follows .mixedOrders = true) (hok:okF P f np c rs = true) (hl:vs.length = np) (h:wp P Y c (retR rs R) ⟨argE 0 vs,H,top⟩):RefC P Y f vs H top R:=by
 unfold okF at hok
 split at hok
 ·rename_i fn hfn
  simp only [Bool.and_eq_true,bne_iff_ne,ne_eq,decide_eq_true_eq] at hok
  obtain ⟨⟨⟨hname,hbody⟩,hres⟩,hnp⟩:=hok
  split at hbody
  ·rename_i code hcode
   refine ⟨goes_of hfn (by simpa using hname) hcode,fun w0 w G σ D vals hrel hD hv hYk=>?_⟩
   let Γ:Cx:={ w0:=w0,G0:=G,σ0:=σ,D0:=D,nx0:=top,wE:=w,nt:=fn.ntmps,hD0:=hD,hwE:=hrel.old.size }
   have hs:=args_sr (Γ:=Γ) (vs:=vs) (vals:=vals) hrel hv (by show vs.length≤fn.ntmps;omega) rfl
   have hw:=wp_dom (b:=⟨argE 0 vs,H,top⟩) ⟨Nat.le_refl _,fun _ _ h=>h⟩ h
   have fend:∀ (a':Act) (w':World) (st:St) (ex:Ex),(∀ id,ex≠.ex id)→(retR rs R ex st∧Dom ⟨argE 0 vs,H,top⟩ st)→SR Γ st a' w'→LeavesInM Fence.wide 0 P fn a'.tmps (Post w0 w G σ H D top R) a'.defers .returning w':=by
    intro a' w' st ex hne hk hs'
    obtain ⟨hk,hdom⟩:=hk
    obtain ⟨_,_,_,_,_,_,_,_,_,hmk,_⟩:=id hs'
    refine leaves_marks _ _ hmk fun w2 hsh=>?_
    obtain ⟨G',σ',a1,a2,a3,a4,a5,a6⟩:=hs'.shut hsh hrel.old.size
    have hk':(match resV st rs with | some v=>∃ H',HS H' st.H∧R v H' st.nx | none=>False):=by
     cases ex with
     | ex id=>exact absurd rfl (hne id)
     | nm=>exact hk
     | rt=>exact hk
    split at hk'
    ·rename_i v hv
     obtain ⟨y,hy,hvy⟩:=results_sound a4 (fun n v e=>by simpa [Act.eval] using a5 n v e) hres hv
     obtain ⟨H2,hH2,hk'⟩:=hk'
     refine ⟨y,hy,v,y,H2,st.nx,G',σ',rfl,hk',hdom.1,fun j hj hn=>?_,a6,a1,a3,a2,a4.sub hH2,hvy⟩
     cases e:H2 j with
     | none=>rfl
     | some ob=>have:=hH2 j ob e;rw [hdom.2 j hj hn] at this;cases this
    ·exact hk'.elim
   refine callsIn_of_wp_marks hfn hcode trivial (wpIn_mono (wp_sound hm (Γ:=Γ) (.inl rfl) (fun l e=>by cases e) hYk hbody hs hw) fun e a' w' hh=>?_)
   cases e with
   | normal=>obtain ⟨st,hk,hs'⟩:=hh;exact fend a' w' st .nm (fun _ h=>by cases h) hk hs'
   | ret=>obtain ⟨st,hk,hs'⟩:=hh;exact fend a' w' st .rt (fun _ h=>by cases h) hk hs'
   | exit id=>obtain ⟨st,hk,hs'⟩:=hh;exact hk.1.elim
   | goto _=>exact hh.elim
   | panic _=>exact hh.elim
   | outgrown=>exact hh.elim
  ·cases hbody
 ·cases hok
end Go.Dp
namespace Go.Dp
open Go.RowKit
set_option linter.unusedSimpArgs false
set_option linter.unusedVariables false
inductive HT where
 | e
 | n (v:Option Ob) (l r:HT)
 deriving Inhabited
def HT.get:HT→Nat→Option Ob
 | .e,_=>none
 | .n v l r,i=>match i with
  | 0=>v
  | j+1=>match (j % 2).beq 0 with
   | true=>l.get (j / 2)
   | false=>r.get (j / 2)
def HT.set:Nat→HT→Nat→Option Ob→HT
 | 0,h,_,_=>h
 | f+1,.e,i,x=>match i with
  | 0=>.n x .e .e
  | j+1=>match (j % 2).beq 0 with
   | true=>.n none (HT.set f .e (j / 2) x) .e
   | false=>.n none .e (HT.set f .e (j / 2) x)
 | f+1,.n v l r,i,x=>match i with
  | 0=>.n x l r
  | j+1=>match (j % 2).beq 0 with
   | true=>.n v (HT.set f l (j / 2) x) r
   | false=>.n v l (HT.set f r (j / 2) x)
def HT.put (h:HT) (i:Nat) (x:Ob):HT:=HT.set 40 h i (some x)
def HT.del (h:HT) (i:Nat):HT:=HT.set 40 h i none
def HT.small (i:Nat):Bool:=Nat.blt i 1099511627775
theorem HT.get_e (i:Nat):HT.get .e i = none:=by unfold HT.get;rfl
theorem HT.get_set:∀ (f:Nat) (h:HT) (i:Nat) (x:Option Ob) (k:Nat),i+1 < 2 ^ f→(HT.set f h i x).get k = if k = i then x else h.get k:=by
 intro f
 induction f with
 | zero=>intro h i x k hi;simp at hi
 | succ f ih =>
  intro h i x k hi
  rw [Nat.pow_succ] at hi
  have step:∀ (v:Option Ob) (l r:HT),(match i with
    | 0=>HT.n x l r
    | j+1=>match (j % 2).beq 0 with
     | true=>HT.n v (HT.set f l (j / 2) x) r
     | false=>HT.n v l (HT.set f r (j / 2) x)).get k = if k = i then x else (HT.n v l r).get k:=by
   intro v l r
   cases i with
   | zero =>
    cases k with
    | zero=>simp [HT.get]
    | succ k=>simp [HT.get]
   | succ j =>
    have hj:j / 2+1 < 2 ^ f:=by omega
    cases hb:(j % 2).beq 0 with
    | true =>
     have hj2:j % 2 = 0:=Nat.eq_of_beq_eq_true hb
     simp only [hb]
     cases k with
     | zero=>simp [HT.get]
     | succ k =>
      simp only [HT.get]
      cases hk:(k % 2).beq 0 with
      | true =>
       have hk2:k % 2 = 0:=Nat.eq_of_beq_eq_true hk
       simp only
       rw [ih _ _ _ _ hj]
       by_cases he:k = j
       ·subst he;simp
       ·rw [if_neg (by omega),if_neg (by omega)]
      | false =>
       have hk2:k % 2≠0:=Nat.ne_of_beq_eq_false hk
       simp only
       rw [if_neg (by intro he; have : k = j := by omega
                      subst this;exact hk2 hj2)]
    | false =>
     have hj2:j % 2≠0:=Nat.ne_of_beq_eq_false hb
     simp only [hb]
     cases k with
     | zero=>simp [HT.get]
     | succ k =>
      simp only [HT.get]
      cases hk:(k % 2).beq 0 with
      | true =>
       have hk2:k % 2 = 0:=Nat.eq_of_beq_eq_true hk
       simp only
       rw [if_neg (by intro he; have : k = j := by omega
                      subst this;exact hj2 hk2)]
      | false =>
       have hk2:k % 2≠0:=Nat.ne_of_beq_eq_false hk
       simp only
       rw [ih _ _ _ _ hj]
       by_cases he:k = j
       ·subst he;simp
       ·rw [if_neg (by omega),if_neg (by omega)]
  cases h with
  | e =>
   have:=step none .e .e
   have h0:(HT.n none .e .e).get k = HT.get .e k:=by
    cases k with
    | zero=>simp [HT.get]
    | succ k=>simp only [HT.get];split <;> rfl
   rw [h0] at this
   exact this
  | n v l r=>exact step v l r
theorem HT.small_lt {i:Nat} (h:HT.small i = true):i+1 < 2 ^ 40:=by
 have:i < 1099511627775:=by simpa [HT.small,Nat.blt_eq] using h
 omega
theorem HT.get_put {h:HT} {i:Nat} {x:Ob} (hs:HT.small i = true):(h.put i x).get = Hp.put h.get i x:=by
 funext k;simp only [HT.put,Hp.put];exact HT.get_set 40 h i _ k (HT.small_lt hs)
theorem HT.get_del {h:HT} {i:Nat} (hs:HT.small i = true):(h.del i).get = Hp.del h.get i:=by
 funext k;simp only [HT.del,Hp.del];exact HT.get_set 40 h i _ k (HT.small_lt hs)
def tgt (op:IOp) (rd:Opd→Option V) (id:Nat):Option Nat :=
 match op with
 | .alloc .. | .box .. | .bsl .. | .mksl .. | .nilo .. | .mkm=>some id
 | .store _ a _=>(rd a).bind V.obj
 | .app _ _ s _ | .appx _ _ _ s _ | .appa _ _ _ s _ | .appz _ _ _ s _=>match rd s with | some .nils=>some id | some v=>v.obj | none=>none
 | .cpy _ d _=>(rd d).bind V.obj
 | .mput _ m _ _=>(rd m).bind V.obj
 | _=>none
def stepR (op:IOp) (rd:Opd→Option V) (h:HT) (id:Nat):Option (V × HT) :=
 match stepOp op rd h.get id with
 | none=>none
 | some (v,H')=>match tgt op rd id with
  | none=>some (v,h)
  | some t=>match HT.small t with
   | true=>match H' t with
    | some ob=>some (v,h.put t ob)
    | none=>none
   | false=>none
def mapST (f:V→HT→Option (V × HT)):List V→HT→Option (List V × HT)
 | [],h=>some ([],h)
 | v::l,h=>match f v h with
  | none=>none
  | some (d,h1)=>match mapST f l h1 with
   | none=>none
   | some (ds,h2)=>some (d::ds,h2)
def HT.mark (h:HT) (o k:Nat):Option HT:=match HT.small o with | true=>(match h.get o with | some ob=>some (h.put o { ob with fz:=max ob.fz k }) | none=>some h) | false=>none
def frzT:Nat→V→HT→Option (V × HT)
 | 0,v,h=>if v.atom then some (v,h) else none
 | n+1,v,h=>match v with
  | .ref o ver off len=>match h.get o with
   | some ob=>if ob.ver = ver∧off+len * ob.sz≤ob.cells.length∧ob.sp = 0 then
     (match mapST (frzT n) ((ob.cells.drop off).take (len * ob.sz)) h with
      | none=>none
      | some (ds,h1)=>match h1.mark o (off+len * ob.sz) with | none=>none | some h2=>some (.sl ds len,h2))
     else none
   | none=>none
  | .ptr o ver off=>match h.get o with
   | some ob=>if ob.ver = ver∧ob.sp = 0 then
     (match mapST (frzT n) ob.cells h with
      | none=>none
      | some (ds,h1)=>match h1.mark o ob.cells.length with | none=>none | some h2=>some (.fp ds off,h2))
     else none
   | none=>none
  | .clo fn f c=>match mapST (frzT n) f h with
   | none=>none
   | some (f',h1)=>match mapST (frzT n) c h1 with
    | none=>none
    | some (c',h2)=>some (.clo fn f' c',h2)
  | .ifc t v=>match frzT n v h with | none=>none | some (d,h1)=>some (.ifc t d,h1)
  | .agg l=>match mapST (frzT n) l h with | none=>none | some (d,h1)=>some (.agg d,h1)
  | .tup l=>match mapST (frzT n) l h with | none=>none | some (d,h1)=>some (.tup d,h1)
  | v=>if v.atom then some (v,h) else none
abbrev OpnT:=V→Nat→HT→Option (V × HT × Nat)
def opnLT (f:OpnT):List V→Nat→HT→Option (List V × HT × Nat)
 | [],id,h=>some ([],h,id)
 | v::l,id,h=>match f v id h with
  | none=>none
  | some (d,h1,i1)=>match opnLT f l i1 h1 with
   | none=>none
   | some (ds,h2,i2)=>some (d::ds,h2,i2)
def opn0T:OpnT
 | .own cells len sz,id,h=>match HT.small id with
  | true=>some (.ref id 0 0 len,h.put id { cells:=cells,sz:=sz,nl:=if cells.isEmpty then 2 else 0 },id+1)
  | false=>none
 | .agg _,_,_=>none
 | .tup _,_,_=>none
 | v,id,h=>some (v,h,id)
def opnT:Nat→OpnT
 | 0,v,id,h=>opn0T v id h
 | n+1,v,id,h=>match v with
  | .agg l=>match opnLT (opnT n) l id h with | none=>none | some (d,r)=>some (.agg d,r)
  | .tup l=>match opnLT (opnT n) l id h with | none=>none | some (d,r)=>some (.tup d,r)
  | v=>opn0T v id h
abbrev Res:=Except (List Nat)
inductive Yc where
 | nil
 | cons (o:Nat) (ps:List Nat) (asg body:C) (fr:Env) (rest:Yc)
structure FnT where
 np:Nat
 c:C
 rs:List RV
 sh:Sh
structure Tab where
 fn:Nat→Option FnT
 meth:List (Nat × String × Nat)
def findMeth (t:Nat) (name:String):List (Nat × String × Nat)→Option Nat
 | []=>none
 | (t',n,f)::l=>if t = t'∧n = name then some f else findMeth t name l
def Yc.find (o:Nat):Yc→Option (List Nat × C × C × Env × Yc)
 | .nil=>none
 | .cons o' ps a b fr rest=>if o' = o then some (ps,a,b,fr,rest) else rest.find o
abbrev RunT:=Yc→C→Env→HT→Nat→Res (Ex × Env × HT × Nat)
def endR (rs:List RV):Ex × Env × HT × Nat→Option V
 | (.ex _,_)=>none
 | (_,E,h,nx)=>resV ⟨E,h.get,nx⟩ rs
def callR (T:Tab) (rec:RunT) (Y:Yc) (fl f:Nat) (vs:List V) (h:HT) (id top:Nat):Res (V × HT × Nat) :=
 match T.fn f with
 | none=>.error [f,1]
 | some fn=>match vs.length.beq fn.np with
  | false=>.error [f,2]
  | true=>match fl with
   | 0=>match mapST (frzT 12) vs h with
    | none=>.error [f,3]
    | some (ds,h1)=>match rec .nil fn.c (argE 0 ds) .e 0 with
     | .error e=>.error (f::e)
     | .ok r=>match endR fn.rs r with
      | none=>.error [f,4]
      | some v=>match fin 12 fn.sh v r.2.2.1.get with
       | none=>.error [f,5]
       | some (x,_)=>match thaw 4 x with
        | none=>.error [f,6]
        | some d=>.ok (d,h1,top)
   | 1=>match mapST (frzT 12) vs h with
    | none=>.error [f,3]
    | some (ds,h1)=>match rec .nil fn.c (argE 0 ds) .e 0 with
     | .error e=>.error (f::e)
     | .ok r=>match endR fn.rs r with
      | none=>.error [f,4]
      | some v=>match fin 12 fn.sh v r.2.2.1.get with
       | none=>.error [f,5]
       | some (x,_)=>match opnT 3 x id h1 with
        | none=>.error [f,7]
        | some (d,h2,id')=>match Nat.ble id' (id+8) with
         | true=>.ok (d,h2,top)
         | false=>.error [f,8]
   | _=>match rec Y fn.c (argE 0 vs) h top with
    | .error e=>.error (f::e)
    | .ok r=>match endR fn.rs r with
     | none=>.error [f,4]
     | some v=>.ok (v,r.2.2.1,r.2.2.2)
def yieldR (rec:RunT) (Y:Yc) (o:Nat) (vs:List V) (h:HT) (top:Nat):Res (V × HT × Nat) :=
 match Y.find o with
 | none=>.error [900]
 | some (ps,asg,body,fr,rest)=>match vs.length.beq ps.length,HT.small o with
  | true,true=>match rec rest asg (putL ps vs fr) h top with
   | .error e=>.error (901::e)
   | .ok (.nm,E1,h1,n1)=>match h1.get o with
    | some { cells:=[],sz:=0,ver:=0,fz:=0,nl:=0,sp:=1,mp:=[] }=>match rec rest body E1 (h1.put o (recO 1)) n1 with
     | .error e=>.error (902::e)
     | .ok (x,_,h2,n2)=>match h2.get o with
      | some { cells:=[],sz:=1,ver:=0,fz:=0,nl:=0,sp:=1,mp:=[] }=>match x with
       | .nm=>.ok (.bool true,h2.put o (recO 0),n2)
       | .rt=>.ok (.bool false,h2.put o (recO 2),n2)
       | .ex id=>.ok (.bool false,h2.put o (recO (id+3)),n2)
      | _=>.error [903]
    | _=>.error [904]
   | .ok _=>.error [905]
  | _,_=>.error [906]
def execR (T:Tab) (rec:RunT) (Y:Yc) (io:Opr) (E:Env) (h:HT) (nx top:Nat):Res (V × HT × Nat) :=
 match io.op with
 | .call f args=>match rdL (rdE E) args with
  | some vs=>callR T rec Y io.fl f vs h (nx+8 * io.i) top
  | none=>.error [910]
 | .callv g args=>match rdE E g with
  | some (.clo (.func f) first caps)=>match rdL (rdE E) args with
   | some vs=>callR T rec Y io.fl f (first++vs++caps) h (nx+8 * io.i) top
   | none=>.error [910]
  | some (.clo (.method name) (.ifc t x::first) _)=>match rdL (rdE E) args with
   | some vs=>match findMeth t name T.meth with
    | some f=>callR T rec Y io.fl f (x::first++vs) h (nx+8 * io.i) top
    | none=>.error [911,t]
   | none=>.error [910]
  | some (.yld o)=>match rdL (rdE E) args with
   | some vs=>match Nat.ble 2 io.fl with
    | true=>yieldR rec Y o vs h top
    | false=>.error [912]
   | none=>.error [910]
  | _=>.error [913]
 | .inv name r args=>match rdE E r with
  | some (.ifc t x)=>match rdL (rdE E) args with
   | some vs=>match findMeth t name T.meth with
    | some f=>callR T rec Y io.fl f (x::vs) h (nx+8 * io.i) top
    | none=>.error [911,t]
   | none=>.error [910]
  | _=>.error [914]
 | .eqa neg x y=>match rdE E x,rdE E y with
  | some v,some .nils=>match v.isNil h.get 1 with
   | some r=>.ok (.bool (r != neg),h,top)
   | none=>.error [915]
  | _,_=>.error [916]
 | op=>match stepR op (rdE E) h (nx+8 * io.i) with
  | some r=>.ok (r.1,r.2,top)
  | none=>.error [917]
def op1R (T:Tab) (rec:RunT) (Y:Yc) (nx:Nat) (io:Opr) (E:Env) (h:HT) (top:Nat):Res (Env × HT × Nat) :=
 match io.g with
 | none=>match execR T rec Y io E h nx top with
  | .ok (v,h',t')=>.ok (putE io.dst v E,h',t')
  | .error e=>.error (io.i::e)
 | some (s,b)=>match look s E with
  | some (.bool c)=>match c == b with
   | true=>match execR T rec Y io E h nx top with
    | .ok (v,h',t')=>.ok (putE io.dst v E,h',t')
    | .error e=>.error (io.i::e)
   | false=>.ok (putE io.dst V.undef E,h,top)
  | some (.tup _)=>.ok (putE io.dst V.undef E,h,top)
  | _=>.error [918]
def opsR (T:Tab) (rec:RunT) (Y:Yc) (nx:Nat):List Opr→Env→HT→Nat→Res (Env × HT × Nat)
 | [],E,h,top=>.ok (E,h,top)
 | io::l,E,h,top=>match op1R T rec Y nx io E h top with
  | .ok (E',h',t')=>opsR T rec Y nx l E' h' t'
  | .error e=>.error e
def bodyR (T:Tab) (rec:RunT) (Y:Yc) (c:C) (E:Env) (h:HT) (nx:Nat):Res (Ex × Env × HT × Nat) :=
 match c with
 | .skip=>.ok (.nm,E,h,nx)
 | .exit id=>.ok (.ex id,E,h,nx)
 | .ret=>.ok (.rt,E,h,nx)
 | .bad=>.error [920]
 | .reg _ ops keep=>match opsR T rec Y nx ops E h (nx+8 * ops.length) with
  | .ok (E',h',t')=>.ok (.nm,keepE E' keep,h',t')
  | .error e=>.error (1000::e)
 | .seq a b=>match rec Y a E h nx with
  | .ok (.nm,E',h',n')=>rec Y b E' h' n'
  | r=>r
 | .cond c a b=>match rdE E c with
  | some (.bool true)=>rec Y a E h nx
  | some (.bool false)=>rec Y b E h nx
  | _=>.error [921]
 | .blk id a=>match rec Y a E h nx with
  | .ok (.ex i,E',h',n')=>match i.beq id with
   | true=>.ok (.nm,E',h',n')
   | false=>.ok (.ex i,E',h',n')
  | r=>r
 | .loop keep a=>match rec Y a (keepE E keep) h nx with
  | .ok (.nm,E',h',n')=>rec Y (.loop keep a) E' h' n'
  | r=>r
 | .rf g ps asg body=>match rdE E g with
  | some (.clo (.func f) first caps)=>match HT.small nx with
   | true=>match callR T rec (.cons nx ps asg body E Y) 2 f (first++[.yld nx]++caps) (h.put nx (recO 0)) nx (nx+1) with
    | .error e=>.error e
    | .ok (_,h',t')=>match h'.get nx with
     | some ob=>match ob.sp,ob.nl with
      | 1,0=>match ob.sz with
       | 0=>.ok (.nm,E,h'.del nx,t')
       | 1=>.error [922]
       | 2=>.ok (.rt,E,h'.del nx,t')
       | id+3=>.ok (.ex id,E,h'.del nx,t')
      | _,_=>.error [923]
     | none=>.error [924]
   | false=>.error [925]
  | _=>.error [926]
def runN (T:Tab):Nat→RunT
 | 0=>fun _ _ _ _ _=>.error [999]
 | n+1=>bodyR T (runN T n)
end Go.Dp
