/- A function's body over deep values, and its contract. -/
import Derived.Test.YtgbjppfikncpcaaGreatDpDraw2
import Derived.RangeFuncNested
namespace Go.Dp
open Go.RowKit
set_option linter.unusedSimpArgs false
set_option linter.unusedVariables false
def okC (P:Program) (nt:Nat):C→Code→Bool
 | .skip,.skip=>true
 | .skip,.label _=>true
 | .reg d ops keep,.region _ os d'=>d == d' && (if d then okDraw P nt os ops else okOps P nt os 0 os.toList ops) && (ops.length == os.size)
 | .seq a b,.seq x y=>okC P nt a x && okC P nt b y
 | .cond c a b,.cond c' x y=>okOpd c' c && okC P nt a x && okC P nt b y
 | .blk id a,.block id' x=>id == id' && okC P nt a x
 | .loop _ a,.loop x=>okC P nt a x
 | .exit id,.exit id'=>id == id'
 | .ret,.ret=>true
 | .bad,_=>true
 | .rf g ps a b,.rangeFunc g' ps' x y=>okOpd g' g && ps'.toList == ps && ps.all (fun p=>decide (p < nt)) && okC P nt a x && okC P nt b y
 | _,_=>false
def SR (Γ:Cx) (st:St) (a:Act) (w:World):Prop:=Γ.nx0≤st.nx∧SRr Γ (fun j=>Γ.nx0≤j∧j < st.nx) st.fr st.H a w
def kPost (Γ:Cx) (K:Ex→St→Prop):Exit→Act→World→Prop
 | .normal,a,w=>∃ st,K .nm st∧SR Γ st a w
 | .exit id,a,w=>∃ st,K (.ex id) st∧SR Γ st a w
 | .ret,a,w=>∃ st,K .rt st∧SR Γ st a w
 | _,_,_=>False
theorem keep_ext {E E':Env} (h:EqE E E'):∀ l:List Nat,keepE E l = keepE E' l
 | []=>rfl
 | n::l=>by simp only [keepE];rw [h n,keep_ext h l]
theorem exists_min {α:Type} (μ:α→Nat) {p:α→Prop} (h:∃ s,p s):∃ s,p s∧∀ t,p t→μ s≤μ t:=by
 obtain ⟨s,hs⟩:=h
 generalize hn:μ s = n
 induction n using Nat.strongRecOn generalizing s with
 | _ n ih =>
  by_cases hc:∃ t,p t∧μ t < n
  ·obtain ⟨t,ht,hlt⟩:=hc
   exact ih (μ t) hlt t ht rfl
  ·exact ⟨s,hs,fun t ht=>by rw [hn];exact Nat.le_of_not_lt fun h=>hc ⟨t,ht,h⟩⟩
theorem Rel.sub {w0 w:World} {G:Gm} {σ:Sg} {H H':Hp} {D:Nat→Prop} (h:Rel w0 G σ H D w) (k:HS H' H):Rel w0 G σ H' D w :=
 ⟨h.old,h.gok,h.dom,fun o ob e=>h.hdom o ob (k o ob e),fun o ob e=>h.obs o ob (k o ob e),fun o o' ob ob' B B' e e'=>h.inj o o' ob ob' B B' (k o ob e) (k o' ob' e'),fun o ob ver x e=>h.vers o ob ver x (k o ob e)⟩
theorem SRr.sub {Γ:Cx} {A:Nat→Prop} {E:Env} {H H':Hp} {a:Act} {w:World} (h:SRr Γ A E H a w) (k:HS H' H):SRr Γ A E H' a w :=
 let ⟨G,σ,a1,a2,a3,a4,a5⟩:=h;⟨G,σ,a1,a2,a3,a4.sub k,a5⟩
variable {Y:Ys}
def Dom (b:St) (s:St):Prop:=b.nx≤s.nx∧∀ j,j < b.nx→b.H j = none→s.H j = none
theorem Dom.trans {a b c:St} (h:Dom a b) (k:Dom b c):Dom a c:=⟨Nat.le_trans h.1 k.1,fun j hj hn=>k.2 j (Nat.lt_of_lt_of_le hj h.1) (h.2 j hj hn)⟩
theorem wpOps_dom {P:Program} {nx:Nat} {K:Env→Hp→Nat→Prop}:∀ {l:List Opr} {E:Env} {H:Hp} {top:Nat},nx≤top→wpOps P Y nx l E H top K→wpOps P Y nx l E H top fun E' H' t=>K E' H' t∧top≤t∧∀ j,j < nx→H j = none→H' j = none
 | [],_,_,_,_,h=>⟨h,Nat.le_refl _,fun _ _ h=>h⟩
 | io::l,E,H,top,hn,h=>by
  refine wpOp1_mono (fun E' H' t hh=>?_) (wpOp1_dom (show wpOp1 P Y nx io E H top _ from h))
  obtain ⟨h1,h2,h3⟩:=hh
  exact wpOps_mono (fun E2 H2 t2 hh=>⟨hh.1,Nat.le_trans h2 hh.2.1,fun j hj hn=>hh.2.2 j hj (h3 j (by omega) (by omega) hn)⟩) (wpOps_dom (by omega) h1)
theorem wp_dom {P:Program}:∀ {c:C} {K:Ex→St→Prop} {st b:St},Dom b st→wp P Y c K st→wp P Y c (fun e s=>K e s∧Dom b s) st
 | .skip,K,st,b,hb,h=>⟨h,hb⟩
 | .reg d ops keep,K,st,b,hb,h=>by
  refine wpOps_mono (fun E H t hh=>?_) (wpOps_dom (by omega) h)
  exact ⟨hh.1,hb.trans ⟨by show st.nx≤t;omega,hh.2.2⟩⟩
 | .seq x y,K,st,b,hb,h=>by
  refine wp_mono (c:=x) (fun e s hh=>?_) (wp_dom (c:=x) hb h)
  cases e with
  | nm =>
   obtain ⟨⟨E',H',h1,h2,h3⟩,hd⟩:=hh
   refine ⟨E',H',h1,h2,wp_dom (c:=y) ⟨hd.1,fun j hj hn=>?_⟩ h3⟩
   have:=hd.2 j hj hn
   show H' j = none
   cases e:H' j with
   | none=>rfl
   | some ob=>rw [h2 j ob e] at this;cases this
  | ex _=>exact hh
  | rt=>exact hh
 | .cond c x y,K,st,b,hb,h=>by
  simp only [wp] at h ⊢
  split at h
  ·split at h
   ·rename_i hc;rw [if_pos hc];exact wp_dom hb h
   ·rename_i hc;rw [if_neg hc];exact wp_dom hb h
  ·exact h
 | .blk id x,K,st,b,hb,h=>by
  refine wp_mono (c:=x) (fun e s hh=>?_) (wp_dom (c:=x) hb h)
  cases e with
  | nm=>exact hh
  | rt=>exact hh
  | ex i =>
   obtain ⟨h1,h2⟩:=hh
   simp only [kBlk] at h1 ⊢
   split
   ·rename_i hc;rw [if_pos hc] at h1;exact ⟨h1,h2⟩
   ·rename_i hc;rw [if_neg hc] at h1;exact ⟨h1,h2⟩
 | .loop keep x,K,st,b,hb,h=>by
  obtain ⟨I,μ,⟨H0,hH0,h0⟩,h1⟩:=h
  have sub:∀ {s:St} {H':Hp} {E:Env},Dom b s→HS H' s.H→Dom b ⟨E,H',s.nx⟩:=fun {s H' E} hd hs=>⟨hd.1,fun j hj hn=>by
   cases e:H' j with
   | none=>exact e
   | some ob=>have:=hs j ob e;rw [hd.2 j hj hn] at this;cases this⟩
  refine ⟨fun s=>I s∧Dom b s,μ,⟨H0,hH0,h0,sub hb hH0⟩,fun s hs=>?_⟩
  refine wp_mono (c:=x) (fun e s' hh=>?_) (wp_dom (c:=x) hs.2 (h1 s hs.1))
  cases e with
  | nm =>
   obtain ⟨⟨H',hH',h1,h2⟩,hd⟩:=hh
   exact ⟨H',hH',⟨h1,sub hd hH'⟩,h2⟩
  | ex _=>exact hh
  | rt=>exact hh
 | .exit _,K,st,b,hb,h=>⟨h,hb⟩
 | .ret,K,st,b,hb,h=>⟨h,hb⟩
 | .bad,K,st,b,hb,h=>h.elim
 | .rf g ps x y,K,st,b,hb,h=>by
  simp only [wp] at h ⊢
  split at h
  ·obtain ⟨R,h1,h2,h3⟩:=h
   refine ⟨R,h1,h2,fun r H' t a c d=>?_⟩
   have h4:=h3 r H' t a c d
   unfold kRf at h4 ⊢
   split at h4
   ·obtain ⟨hsp,h4⟩:=h4
    have hd : ∀ E, Dom b ⟨E, H'.del st.nx, t⟩ := fun E => ⟨by have := hb.1; show b.nx ≤ t; omega, fun j hj hn => by
     show (if j = st.nx then none else H' j) = none
     split
     ·rfl
     ·rename_i hjn
      have:=hb.1
      refine d j (by omega) ?_
      have:=hb.2 j hj hn
      simp [Hp.put,hjn,this]⟩
    refine ⟨hsp,?_⟩
    split at h4
    ·exact ⟨h4,hd _⟩
    ·exact h4
    ·exact ⟨h4,hd _⟩
    ·exact ⟨h4,hd _⟩
   ·exact h4
  ·exact h
theorem wpOps_ex {P:Program} (hY:YEx Y) {nx:Nat}:∀ {l:List Opr} {E:Env} {H:Hp} {top:Nat} {K:Env→Hp→Nat→Prop},wpOps P Y nx l E H top K→∃ E' H' t,K E' H' t
 | [],E,H,top,K,h=>⟨E,H,top,h⟩
 | io::l,E,H,top,K,h=>by
  obtain ⟨v,H',t,hk⟩:=wpOp1_ex hY (show wpOp1 P Y nx io E H top _ from h)
  exact wpOps_ex hY hk
theorem wp_ex {P:Program} (hY:YEx Y):∀ {c:C} {K:Ex→St→Prop} {st:St},wp P Y c K st→∃ e s,K e s
 | .skip,K,st,h=>⟨_,_,h⟩
 | .reg d ops keep,K,st,h=>let ⟨_,_,_,hk⟩:=wpOps_ex hY h;⟨_,_,hk⟩
 | .seq x y,K,st,h=>by
  obtain ⟨e,s,hk⟩:=wp_ex hY (c:=x) h
  cases e with
  | nm=>obtain ⟨_,_,_,_,hk⟩:=hk;exact wp_ex hY (c:=y) hk
  | ex _=>exact ⟨_,_,hk⟩
  | rt=>exact ⟨_,_,hk⟩
 | .cond c x y,K,st,h=>by
  simp only [wp] at h
  split at h
  ·split at h
   ·exact wp_ex hY h
   ·exact wp_ex hY h
  ·exact h.elim
 | .blk id x,K,st,h=>by
  obtain ⟨e,s,hk⟩:=wp_ex hY (c:=x) h
  cases e with
  | nm=>exact ⟨_,_,hk⟩
  | rt=>exact ⟨_,_,hk⟩
  | ex i =>
   simp only [kBlk] at hk
   split at hk
   ·exact ⟨_,_,hk⟩
   ·exact ⟨_,_,hk⟩
 | .loop keep x,K,st,h=>by
  obtain ⟨I,μ,⟨H0,hH0,h0⟩,h1⟩:=h
  have key:∀ (m:Nat) (s:St),I s→μ s = m→∃ e s',K e s':=by
   intro m
   induction m using Nat.strongRecOn with
   | _ m ih =>
    intro s hs hm
    obtain ⟨e,s',hk⟩:=wp_ex hY (c:=x) (h1 s hs)
    cases e with
    | nm =>
     obtain ⟨H',hH',hi,hlt⟩:=hk
     exact ih _ (by rw [← hm];exact hlt) _ hi rfl
    | ex _=>exact ⟨_,_,hk⟩
    | rt=>exact ⟨_,_,hk⟩
  exact key _ _ h0 rfl
 | .exit _,K,st,h=>⟨_,_,h⟩
 | .ret,K,st,h=>⟨_,_,h⟩
 | .bad,K,st,h=>h.elim
 | .rf g ps x y,K,st,h=>by
  simp only [wp] at h
  split at h
  ·obtain ⟨R,h1,⟨r,H',t,a,c,d⟩,h3⟩:=h
   have h4:=h3 r H' t a c d
   unfold kRf at h4
   split at h4
   ·obtain ⟨hsp,h4⟩:=h4
    split at h4
    ·exact ⟨_,_,h4⟩
    ·exact h4.elim
    ·exact ⟨_,_,h4⟩
    ·exact ⟨_,_,h4⟩
   ·exact h4.elim
  ·exact h.elim
theorem hand_dom {P:Program} {asg body:C} {o:Nat} {Kc:V→Hp→Nat→Prop} {E:Env} {H:Hp} {top:Nat} (h:wp P Y asg (kAsg o (wp P Y body (kRound o Kc))) ⟨E,H,top⟩) :
  wp P Y asg (kAsg o (wp P Y body (kRound o fun v H' t=>Kc v H' t∧top≤t∧∀ j,j < top→H j = none→H' j = none))) ⟨E,H,top⟩:=by
 refine wp_mono (fun e s hh=>?_) (wp_dom (b:=⟨E,H,top⟩) ⟨Nat.le_refl _,fun _ _ h=>h⟩ h)
 obtain ⟨hk,hd⟩:=hh
 cases e with
 | ex _=>exact hk
 | rt=>exact hk
 | nm =>
  obtain ⟨ho,hk⟩:=hk
  have hd1:Dom ⟨E,H,top⟩ ⟨s.fr,s.H.put o (recO 1),s.nx⟩:=⟨hd.1,fun j hj hn=>by
   have h1:=hd.2 j hj hn
   have:j≠o:=fun e=>by rw [e,ho] at h1;cases h1
   simp [Hp.put,this,h1]⟩
  refine ⟨ho,wp_mono (fun e2 s2 hh=>?_) (wp_dom hd1 hk)⟩
  obtain ⟨hk2,hd2⟩:=hh
  have key:s2.H o = some (recO 1)→∀ (ob:Ob),top≤s2.nx∧∀ j,j < top→H j = none→(s2.H.put o ob) j = none:=fun ho2 ob=>⟨hd2.1,fun j hj hn=>by
   have h1:=hd2.2 j hj hn
   have:j≠o:=fun e=>by rw [e,ho2] at h1;cases h1
   simp [Hp.put,this,h1]⟩
  cases e2 with
  | nm=>exact ⟨hk2.1,hk2.2,key hk2.1 _⟩
  | rt=>exact ⟨hk2.1,hk2.2,key hk2.1 _⟩
  | ex id=>exact ⟨hk2.1,hk2.2,key hk2.1 _⟩
theorem hand_ex {P:Program} (hY:YEx Y) {asg body:C} {o:Nat} {Kc:V→Hp→Nat→Prop} {E:Env} {H:Hp} {top:Nat} (h:wp P Y asg (kAsg o (wp P Y body (kRound o Kc))) ⟨E,H,top⟩) :
  ∃ v H' t,Kc v H' t∧top≤t∧∀ j,j < top→H j = none→H' j = none:=by
 obtain ⟨e,s,hk⟩:=wp_ex hY (hand_dom h)
 cases e with
 | ex _=>exact hk.elim
 | rt=>exact hk.elim
 | nm =>
  obtain ⟨e2,s2,hk2⟩:=wp_ex hY hk.2
  cases e2 with
  | nm=>exact ⟨_,_,_,hk2.2⟩
  | rt=>exact ⟨_,_,_,hk2.2⟩
  | ex id=>exact ⟨_,_,_,hk2.2⟩
section
variable {w w0:World} {G:Gm} {σ:Sg} {H:Hp} {D:Nat→Prop}
theorem Rel.rec_of (h:Rel w0 G σ H D w) {o:Nat} {ob:Ob} (ho:H o = some ob) (hsp:ob.sp = 1∧ob.nl = 0) {B:Blk} (hB0:σ o 0 = some (some B)):σ o ob.ver = some (some B)∧w0.heap.size≤B.b∧∃ r,w.heap[B.b]? = some (.loop r)∧LoopSt r ob.sz:=by
 rcases h.obs _ _ ho with ⟨B2,hB2,_,hob⟩ | ⟨_,_,hnl,_⟩ | ⟨B2,hB2,hB20,hlo,obj,hb,hob⟩
 ·have:=hob.sp;omega
 ·exact absurd hsp.2 hnl
 ·rw [hB0] at hB20;cases hB20
  cases hob with
  | loop _ _ hl=>exact ⟨hB2,hlo,_,hb,hl⟩
  | map h2=>omega
end
variable {Y:Ys} {P:Program}
theorem putL_env {G:Gm} {σ:Sg} {nt:Nat}:∀ {ps:List Nat} {vs:List V} {vals:List Value} {E:Env} {tmps:Array Value},ps.length = vs.length→(∀ p∈ps,p < nt)→VRL G σ vs vals→tmps.size = nt→(∀ n v,look n E = some v→VR G σ v (tmps.getD n undef)) →
  ((ps.zip vals).foldl (fun t (p,v)=>t.setIfInBounds p v) tmps).size = nt∧∀ n v,look n (putL ps vs E) = some v→VR G σ v (((ps.zip vals).foldl (fun t (p,v)=>t.setIfInBounds p v) tmps).getD n undef)
 | [],_,_,E,tmps,hl,_,hv,hs,hE=>by
  cases hv with
  | nil=>exact ⟨hs,hE⟩
  | cons _ _=>simp at hl
 | p::ps,_,_,E,tmps,hl,hp,hv,hs,hE=>by
  cases hv with
  | nil=>simp at hl
  | cons h t =>
   simp only [List.zip_cons_cons,List.foldl_cons,putL]
   refine putL_env (by simpa using hl) (fun q hq=>hp q (by simp [hq])) t (by simpa using hs) (fun n v e=>?_)
   have hpn:=hp p (by simp)
   simp only [look] at e
   split at e
   ·rename_i hn;subst hn;cases e
    simp [Array.getD_eq_getD_getElem?,hs,hpn];exact h
   ·rename_i hn
    have:=hE n v e
    simpa [Array.getD_eq_getD_getElem?,Array.getElem?_setIfInBounds_ne hn] using this
theorem NC.putLoop {w:World} {l:Nat} {r:Loop} (h:w.heap[l]? = some (.loop r)) (s:LoopState) (p:Option Code):NC w (w.putObj l (.loop { r with state:=s,pending:=p })):=by
 have hlt:=(Array.getElem?_eq_some_iff.1 h).1
 refine ⟨by simp,fun b o e hc=>?_,fun b r' e=>?_⟩
 ·have : b ≠ l := fun e2 => by rw [e2, h] at e; cases e; cases hc
  rw [World.putObj_heap_other this];exact e
 ·by_cases hb:b = l
  ·subst hb;rw [h] at e;cases e;exact ⟨s,p,World.putObj_heap_same hlt⟩
  ·exact ⟨r'.state,r'.pending,by rw [World.putObj_heap_other hb];exact e⟩
theorem enter_any {F:Fence} {w:World} (hFr:∀ l,F.round = some l→∃ r,w.heap[l]? = some (.loop r)) (fn:FuncId) (tmps:Array Value) (ps:Array Tmp) (asg body:Code) :
  ∃ mark W d,(Instr.enterLoop fn tmps ps asg body F.round).run P w = .ok (W.heap.size,mark) (W.alloc (.loop { state:=.ready,pending:=none,fn,tmps,params:=ps,assign:=asg,body,defers:=d })) ∧
   ((W = w∧mark = [])∨(W = w.alloc (.deferred (some []))∧mark = [{ target:=.collected w.heap.size,args:=#[] }])):=by
 cases hr:F.round with
 | none=>exact ⟨_,_,w.heap.size,by rw [run_enterLoop_outer];simp,.inr ⟨rfl,rfl⟩⟩
 | some l =>
  obtain ⟨r,h⟩:=hFr l hr
  exact ⟨_,_,_,run_enterLoop_inner h _ _ _ _ _,.inl ⟨rfl,rfl⟩⟩
theorem wp_sound (hm:P.follows .mixedOrders = true):∀ {c:C} {Γ:Cx} {F:Fence} {n:Nat} {code:Code} {K:Ex→St→Prop} {st:St} {a:Act} {w:World},FOk F→(∀ l,F.round = some l→∃ r,Γ.wE.heap[l]? = some (.loop r))→YOk P Γ.w0 Y Γ.G0 Γ.σ0 Γ.wE →
  okC P Γ.nt c code = true→SR Γ st a w→wp P Y c K st→code.wpIn F n P (kPost Γ K) a w
 | .skip,Γ,F,n,code,K,st,a,w,hF,hFr,hY,hok,hs,hw=>by
  cases code <;> simp [okC] at hok
  ·exact wpIn_skip ⟨st,hw,hs⟩
  ·exact wpIn_label ⟨st,hw,hs⟩
 | .reg d ops keep,Γ,F,n,code,K,st,a,w,hF,hFr,hY,hok,hs,hw=>by
  cases code <;> simp only [okC,Bool.and_eq_true,beq_iff_eq,Bool.false_eq_true] at hok
  rename_i rid os d'
  obtain ⟨⟨rfl,hok⟩,hlen⟩:=hok
  simp only [wp] at hw
  obtain ⟨hnx,hs⟩:=hs
  rw [hlen] at hw
  cases d with
  | false =>
   rw [if_neg (by simp)] at hok
   refine wpIn_region ?_
   have := ops_sound (Q := kPost Γ K) (n := n) hF (Γ := Γ) hY (ops := os) hnx ops 0 st.fr st.H (st.nx + 8 * os.size) a w (Nat.zero_le _) (by simpa using hok) (Nat.le_refl _) (hs.weaken fun j hj => by omega) hw
    (fun E' H' t' a' w' hk hle hs'=>⟨_,hk,by show Γ.nx0≤t';omega,hs'.env fun n v h=>look_keep h⟩)
   simpa using this
  | true =>
   rw [if_pos rfl] at hok
   simp only [okDraw,Bool.and_eq_true,List.all_eq_true,beq_iff_eq] at hok
   obtain ⟨⟨⟨⟨⟨hB,hp⟩,hall⟩,hl⟩,hlt⟩,hio⟩:=hok
   have hst:=okPairs_static (P:=P) (nt:=Γ.nt) hp (fun io h=>by
    have:=hio io h
    split at this
    ·rename_i o ho;exact ⟨o,ho,this⟩
    ·cases this)
   refine wpIn_region_any hm ?_
   rw [← hlen]
   refine drawn hF hY hnx hB (fun o ho e he => ?_) (fun E E' H t he hk => ?_) ops.length ops _ st.fr st.H (st.nx + 8 * os.size) a _ rfl hst (by simp [hlen]) (fun i hi => ?_) (fun i j hi hj h => ?_) (Nat.le_refl _) ?_ hw
    (fun E' H' t' a' w' hk hle hs'=>⟨_,hk,by show Γ.nx0≤t';omega,hs'.env fun n v h=>look_keep h⟩)
   ·have := hlt o (by simpa using ho)
    exact of_decide_eq_true (this e (by simpa using he))
   ·rw [← keep_ext he];exact hk
   ·have h1 : (Array.replicate ops.length false).getD i true = false := by simp [Array.getD_eq_getD_getElem?, hlen, hi]
    have h2:=hall i (by simpa using hi)
    simp only [List.any_eq_true,beq_iff_eq] at h2
    exact ⟨fun _=>h2,fun _=>h1⟩
   ·simp [Array.getD_eq_getD_getElem?,Array.getElem?_replicate] at h
    split at h <;> simp at h
   ·obtain ⟨G,σ,a1,a2,a3,a4,a5,a6,a7,a8⟩:=hs
    exact ⟨G,σ,a1,a2,a3,a4.drew.weaken fun j hj=>hj.imp (fun h=>h) (fun h=>.inl h),a5,a6,a7.nc (NC.of_heap rfl),a8.trans (NC.of_heap rfl)⟩
 | .seq x y,Γ,F,n,code,K,st,a,w,hF,hFr,hY,hok,hs,hw=>by
  cases code <;> simp only [okC,Bool.and_eq_true,Bool.false_eq_true] at hok
  refine wpIn_seq (wpIn_mono (wp_sound hm hF hFr hY hok.1 hs hw) fun e a' w' h=>?_)
  cases e with
  | normal=>obtain ⟨s,⟨E',H',h1,h2,hk⟩,hs'⟩:=h;exact wp_sound hm hF hFr hY hok.2 (st:=⟨E',H',s.nx⟩) ⟨hs'.1,(hs'.2.env h1).sub h2⟩ hk
  | exit id=>exact h
  | ret=>exact h
  | goto _=>exact h
  | panic _=>exact h
  | outgrown=>exact h
 | .cond c x y,Γ,F,n,code,K,st,a,w,hF,hFr,hY,hok,hs,hw=>by
  cases code <;> simp only [okC,Bool.and_eq_true,Bool.false_eq_true] at hok
  simp only [wp] at hw
  split at hw
  ·rename_i t ht
   obtain ⟨hnx,G,σ,a1,a2,a3,a4,a5,a6⟩:=id hs
   have hb:=(rdR_env a5 _ _ hok.1.1 _ ht).bool_inv
   refine wpIn_cond hb ?_
   cases t with
   | true=>exact wp_sound hm hF hFr hY hok.1.2 hs (by simpa using hw)
   | false=>exact wp_sound hm hF hFr hY hok.2 hs (by simpa using hw)
  ·exact hw.elim
 | .blk id x,Γ,F,n,code,K,st,a,w,hF,hFr,hY,hok,hs,hw=>by
  cases code <;> simp only [okC,Bool.and_eq_true,beq_iff_eq,Bool.false_eq_true] at hok
  obtain ⟨rfl,hok⟩:=hok
  refine wpIn_block (wpIn_mono (wp_sound hm hF hFr hY hok hs hw) fun e a' w' h=>?_)
  cases e with
  | normal=>exact h
  | exit id' =>
   obtain ⟨s,hk,hs'⟩:=h
   simp only [kBlk] at hk
   simp only [Exit.inBlock]
   split
   ·rename_i hc;rw [if_pos hc] at hk;exact ⟨s,hk,hs'⟩
   ·rename_i hc;rw [if_neg hc] at hk;exact ⟨s,hk,hs'⟩
  | ret=>exact h
  | goto _=>exact h
  | panic _=>exact h
  | outgrown=>exact h
 | .loop keep x,Γ,F,n,code,K,st,a,w,hF,hFr,hY,hok,hs,hw=>by
  cases code <;> simp only [okC,Bool.false_eq_true] at hok
  obtain ⟨I,μ,⟨H0,hH0,h0⟩,h1⟩:=hw
  classical
  have:∀ (a:Act) (w:World),(∃ s,I s∧SR Γ s a w)→∃ s,(I s∧SR Γ s a w)∧∀ t,(I t∧SR Γ t a w)→μ s≤μ t:=fun a w h=>exists_min μ h
  let ν:Act→World→Nat:=fun a w=>if h:∃ s,I s∧SR Γ s a w then μ (Classical.choose (this a w h)) else 0
  have hν:∀ a w s,I s→SR Γ s a w→ν a w≤μ s:=fun a w s hi hs=>by
   have hex:∃ s,I s∧SR Γ s a w:=⟨s,hi,hs⟩
   show (if h:∃ s,I s∧SR Γ s a w then μ (Classical.choose (this a w h)) else 0)≤μ s
   rw [dif_pos hex]
   exact (Classical.choose_spec (this a w hex)).2 s ⟨hi,hs⟩
  refine wpIn_loop (fun a w=>∃ s,I s∧SR Γ s a w) ν ⟨_,h0,hs.1,(hs.2.env fun n v h=>look_keep h).sub hH0⟩ ?_
  intro a w hex
  have hsp:=Classical.choose_spec (this a w hex)
  have hνe:ν a w = μ (Classical.choose (this a w hex)):=by
   show (if h:∃ s,I s∧SR Γ s a w then μ (Classical.choose (this a w h)) else 0) = _
   rw [dif_pos hex]
  refine wpIn_mono (wp_sound hm hF hFr hY hok hsp.1.2 (h1 _ hsp.1.1)) fun e a' w' h=>?_
  cases e with
  | normal =>
   obtain ⟨s,⟨H',hH',hk,hlt⟩,hs'⟩:=h
   have hs'':SR Γ ⟨keepE s.fr keep,H',s.nx⟩ a' w':=⟨hs'.1,(hs'.2.env fun n v h=>look_keep h).sub hH'⟩
   refine ⟨⟨_,hk,hs''⟩,?_⟩
   have:=hν a' w' _ hk hs''
   rw [hνe];omega
  | exit id=>exact h
  | ret=>exact h
  | goto _=>exact h
  | panic _=>exact h
  | outgrown=>exact h
 | .exit id,Γ,F,n,code,K,st,a,w,hF,hFr,hY,hok,hs,hw=>by
  cases code <;> simp only [okC,beq_iff_eq,Bool.false_eq_true] at hok
  subst hok
  exact wpIn_exit ⟨st,hw,hs⟩
 | .ret,Γ,F,n,code,K,st,a,w,hF,hFr,hY,hok,hs,hw=>by
  cases code <;> simp only [okC,Bool.false_eq_true] at hok
  exact wpIn_ret ⟨st,hw,hs⟩
 | .bad,Γ,F,n,code,K,st,a,w,hF,hFr,hY,hok,hs,hw=>hw.elim
 | .rf g ps asg body,Γ,F,n,code,K,st,a,w,hF,hFr,hY,hok,hs,hw=>by
  cases code <;> simp only [okC,Bool.and_eq_true,beq_iff_eq,Bool.false_eq_true,List.all_eq_true,decide_eq_true_eq] at hok
  rename_i g' ps' asg' body'
  obtain ⟨⟨⟨⟨hg,hps⟩,hpn⟩,hokA⟩,hokB⟩:=hok
  obtain ⟨hnx,G,σ,hG0,hσ0,hnew,hrel,hE,hsz,hds,hnc⟩:=hs
  simp only [wp] at hw
  split at hw
  ·rename_i f first caps hg'
   obtain ⟨R,hR,hRn,hRk⟩:=hw
   obtain ⟨vf,vc,hgx,hvf,hvc⟩:=(rdR_env hE g' g hg _ hg').clo_inv
   have hDo:¬ (Γ.D0 st.nx∨(Γ.nx0≤st.nx∧st.nx < st.nx)):=fun h=>by
    rcases h with h | h
    ·exact Γ.hD0 _ hnx h
    ·omega
   refine wpIn_rangeFunc fun fn hfn=>?_
   obtain ⟨mark,W,dd,hent,hW⟩:=enter_any (P:=P) (F:=F) (w:=w) (fun l hl=>by
    obtain ⟨r,hr⟩:=hFr l hl
    obtain ⟨s,p,h⟩:=hnc.lp _ _ hr
    exact ⟨_,h⟩) fn a.tmps ps' asg' body'
   let rec0:Loop:={ state:=.ready,pending:=none,fn,tmps:=a.tmps,params:=ps',assign:=asg',body:=body',defers:=dd }
   have hrec0:rec0 = { state:=.ready,pending:=none,fn,tmps:=a.tmps,params:=ps',assign:=asg',body:=body',defers:=dd }:=rfl
   rw [← hrec0] at hent
   have hrelW:Rel Γ.w0 G σ st.H (fun o=>Γ.D0 o∨(Γ.nx0≤o∧o < st.nx)) W:=by
    rcases hW with ⟨rfl,_⟩ | ⟨rfl,_⟩
    ·exact hrel
    ·exact hrel.grow _
   have hncW:NC w W:=by
    rcases hW with ⟨rfl,_⟩ | ⟨rfl,_⟩
    ·exact NC.refl _
    ·exact NC.alloc _ _
   obtain ⟨σ1,hse1,hσo,hrel1⟩:=hrelW.allocSp (id:=st.nx) hDo (ob:=recO 0) rfl (obj:=.loop rec0) (fun σ' _=>.loop ⟨rfl,rfl⟩ rfl ⟨rfl,rfl⟩)
   have hl1:(W.alloc (.loop rec0)).heap[W.heap.size]? = some (.loop rec0):=World.alloc_heap_new _ _
   have hncW1:NC W (W.alloc (.loop rec0)):=NC.alloc _ _
   have hncE1:NC Γ.wE (W.alloc (.loop rec0)):=(hnc.trans hncW).trans hncW1
   generalize hW1:W.alloc (.loop rec0) = w1 at hent hrel1 hl1 hncE1 hncW1
   generalize hl:W.heap.size = l at hent hσo hl1
   -- what a round does
   have hround:YOk P Γ.w0 (Y.put st.nx fun vs H top Kc=>vs.length = ps.length∧wp P Y asg (kAsg st.nx (wp P Y body (kRound st.nx Kc))) ⟨putL ps vs st.fr,H,top⟩) G σ1 w1:=by
    refine ⟨fun o y e vs H top Kc hy=>?_,fun o y e=>?_⟩
    ·by_cases ho:o = st.nx
     ·simp only [Ys.put,ho,if_true,Option.some.injEq] at e
      subst e
      exact hand_ex hY.1 hy.2
     ·simp only [Ys.put,ho,if_false] at e
      exact hY.1 o y e vs H top Kc hy
    ·by_cases ho:o = st.nx
     ·subst ho
      simp only [Ys.put,if_true,Option.some.injEq] at e
      subst e
      refine ⟨_,hσo,?_⟩
      intro w2 G2 σ2 H2 D2 vs vals top Kc hG2 hs2 hn2 hle2 hrel2 hD2 hv2 ⟨hvl,hy⟩
      obtain ⟨s2,p2,hl2⟩:=hn2.lp _ _ hl1
      have hvals:vals.length = ps'.size:=by rw [← hv2.length,hvl,← hps];simp
      have hy2:=hand_dom hy
      refine ⟨fn,_,asg',body',run_yield hl2 (by simpa using hvals),roundIn_of_wpIn trivial ?_⟩
      have hzip:(ps'.zip vals.toArray).foldl (fun t (x:Tmp × Value)=>t.setIfInBounds x.1 x.2) a.tmps = (ps.zip vals).foldl (fun t (x:Nat × Value)=>t.setIfInBounds x.1 x.2) a.tmps:=by
       rw [← hps]
       rcases ps' with ⟨ps'⟩
       simp
      have hEv:∀ m v,look m st.fr = some v→VR G2 σ2 v (a.tmps.getD m undef):=fun m v e=>((by simpa [Act.eval] using hE m v e:VR G σ v (a.tmps.getD m undef))).mono hG2 (hse1.trans hs2)
      obtain ⟨hsz2,hE2⟩:=putL_env (ps:=ps) (tmps:=a.tmps) hvl.symm (fun p hp=>hpn p hp) hv2 hsz hEv
      let Γ':Cx:={ w0:=Γ.w0,G0:=G2,σ0:=σ2,D0:=D2,nx0:=top,wE:=w2,nt:=Γ.nt,hD0:=hD2,hwE:=hrel2.old.size }
      have hY':YOk P Γ'.w0 Y Γ'.G0 Γ'.σ0 Γ'.wE:=hY.mono Γ.hwE (hG0.trans hG2) ((hσ0.trans hse1).trans hs2) (hncE1.trans hn2)
      have hF':FOk (Fence.wide.inRound l):=.inr ⟨l,rfl⟩
      have hFr':∀ l',(Fence.wide.inRound l).round = some l'→∃ r,Γ'.wE.heap[l']? = some (.loop r):=fun l' e=>by
       simp at e;subst e;exact ⟨_,hl2⟩
      have hsr:SR Γ' ⟨putL ps vs st.fr,H2,top⟩ { tmps:=(ps'.zip vals.toArray).foldl (fun t (x:Tmp × Value)=>t.setIfInBounds x.1 x.2) a.tmps,defers:=[] } w2:=by
       rw [hzip]
       exact ⟨Nat.le_refl _,G2,σ2,GExt.refl _,SExt.refl _,fun b o v e=>.inl e,hrel2.weaken fun j hj=>.inl hj,fun m v e=>by simpa [Act.eval] using hE2 m v e,hsz2,MarksOk.nil _ _,NC.refl _⟩
      have hB2:σ2 st.nx 0 = some (some ⟨l,0,0⟩):=hs2 _ _ _ hσo
      refine wpIn_mono (wp_sound hm hF' hFr' hY' hokA hsr hy2) fun e a' w3 hh=>?_
      cases e with
      | exit id=>obtain ⟨s,hk,_⟩:=hh;exact hk.elim
      | ret=>obtain ⟨s,hk,_⟩:=hh;exact hk.elim
      | goto _=>exact hh.elim
      | panic _=>exact hh.elim
      | outgrown=>exact hh.elim
      | normal =>
       obtain ⟨s1,⟨hob,hk⟩,hnx1,G3,σ3,hG3,hσ3,hnew3,hrel3,hE3,hsz3,hds3,hnc3⟩:=hh
       have hB3:σ3 st.nx 0 = some (some ⟨l,0,0⟩):=hσ3 _ _ _ hB2
       obtain ⟨hBv,hlo,r3,hl3,hst3⟩:=hrel3.rec_of hob ⟨rfl,rfl⟩ hB3
       refine ⟨_,run_beginRound hl3 hst3.1,?_⟩
       have hrel4:=hrel3.turn hob (ob':=recO 1) rfl hBv hB3 hlo hl3 (fun _ _ _ e=>by cases e) (obj':=.loop { r3 with state:=.busy }) (.loop ⟨rfl,rfl⟩ rfl rfl)
       have hnc4:NC w3 (w3.putObj l (.loop { r3 with state:=.busy })):=NC.putLoop hl3 _ r3.pending
       have hsr4:SR Γ' ⟨s1.fr,s1.H.put st.nx (recO 1),s1.nx⟩ a' (w3.putObj l (.loop { r3 with state:=.busy })) :=
        ⟨hnx1,G3,σ3,hG3,hσ3,hnew3,hrel4,hE3,hsz3,hds3.nc hnc4,hnc3.trans hnc4⟩
       refine wpIn_mono (wp_sound hm hF' hFr' hY' hokB hsr4 hk) fun e a5 w5 hh=>?_
       -- the round's end
       have fin:∀ (s5:St) (bv:Bool) (jump:Option Code) (m:Nat),SR Γ' s5 a5 w5→s5.H st.nx = some (recO 1)→bv = jump.isNone→(∀ r:Loop,LoopSt { r with state:=if jump.isNone then .ready else .done,pending:=jump } m) →
         (Kc (.bool bv) (s5.H.put st.nx (recO m)) s5.nx∧top≤s5.nx∧∀ j,j < top→H2 j = none→(s5.H.put st.nx (recO m)) j = none) →
         ∃ v w6,(Instr.endRound l jump).run P w5 = .ok v w6∧Post Γ.w0 w2 G2 σ2 H2 D2 top Kc (.returned v) w6:=by
        intro s5 bv jump m hs5 hob5 hbv hls hkk
        obtain ⟨hnx5,G5,σ5,hG5,hσ5,hnew5,hrel5,hE5,hsz5,hds5,hnc5⟩:=hs5
        have hB5:σ5 st.nx 0 = some (some ⟨l,0,0⟩):=hσ5 _ _ _ hB2
        obtain ⟨hBv5,hlo5,r5,hl5,_⟩:=hrel5.rec_of hob5 ⟨rfl,rfl⟩ hB5
        refine ⟨_,_,run_endRound jump hl5,.bool bv,_,_,s5.nx,G5,σ5,rfl,hkk.1,hkk.2.1,hkk.2.2,hnc5.trans (NC.putLoop hl5 _ _),hG5,hnew5,hσ5,?_,?_⟩
        ·exact hrel5.turn hob5 (ob':=recO m) rfl hBv5 hB5 hlo5 hl5 (fun _ _ _ e=>by cases e) (.loop ⟨rfl,rfl⟩ rfl (hls r5))
        ·rw [hbv];exact .deep (.bool _)
       cases e with
       | normal=>obtain ⟨s5,⟨ho5,hk5⟩,hs5⟩:=hh;exact fin s5 true none 0 hs5 ho5 rfl (fun r=>⟨rfl,rfl⟩) hk5
       | ret=>obtain ⟨s5,⟨ho5,hk5⟩,hs5⟩:=hh;exact fin s5 false (some .ret) 2 hs5 ho5 rfl (fun r=>⟨rfl,rfl⟩) hk5
       | exit id=>obtain ⟨s5,⟨ho5,hk5⟩,hs5⟩:=hh;exact fin s5 false (some (.exit id)) (id+3) hs5 ho5 rfl (fun r=>⟨rfl,rfl⟩) hk5
       | goto _=>exact hh.elim
       | panic _=>exact hh.elim
       | outgrown=>exact hh.elim
     ·simp only [Ys.put,ho,if_false] at e
      exact (hY.mono Γ.hwE hG0 (hσ0.trans hse1) hncE1).2 o y e
   refine ⟨l,mark,w1,{ target:=.fn (.func f) vc.toArray,args:=(vf++[Value.func (.yield l) #[] #[]]).toArray },w1,f,(vf++[Value.func (.yield l) #[] #[]]++vc).toArray,w1,hent,?_,fun f' _=>hF.fn f',?_,(fun h=>by rw [hF.depth] at h;cases h),?_⟩
   ·simp [resolve,hgx,Deferred.ofValue];simp [Act.eval]
   ·have:=hR.1 (vf++[Value.func (.yield l) #[] #[]]++vc).toArray w1
    simp only [invoke]
    simpa using this
   ·refine hF.calls ((hR.2 Γ.w0 w1 G σ1 _ _ hrel1 (fun j hj hD=>?_) (((hvf.mono (GExt.refl _) hse1).append (.cons (.yld hσo) .nil)).append (hvc.mono (GExt.refl _) hse1)) hround).mono ?_)
    ·rcases hD with (hD | hD) | hD
     ·exact Γ.hD0 _ (by omega) hD
     ·omega
     ·omega
    rintro e w3 ⟨r,x,H',top',G',σ',rfl,hRr,hle,hdom,hnc',hG',hn',hs',hrel',hv'⟩
    have hk:=hRk r H' top' hRr hle hdom
    unfold kRf at hk
    split at hk
    ·rename_i ob hob
     obtain ⟨hsp,hk⟩:=hk
     have hB':σ' st.nx 0 = some (some ⟨l,0,0⟩):=hs' _ _ _ hσo
     obtain ⟨hBv,hlo,r3,hl3,hst3⟩:=hrel'.rec_of hob hsp hB'
     have hd:=hrel'.drop hob hBv hlo (.loop { r3 with state:=.exhausted }) hl3 (fun _ _ _ e=>by cases e)
     have hnc3:NC w3 (w3.putObj l (.loop { r3 with state:=.exhausted })):=NC.putLoop hl3 _ r3.pending
     have hsr:SR Γ ⟨st.fr,H'.del st.nx,top'⟩ { a with defers:=mark++a.defers } (w3.putObj l (.loop { r3 with state:=.exhausted })):=by
      refine ⟨by show Γ.nx0≤top';omega,G',σ',hG0.trans hG',(hσ0.trans hse1).trans hs',fun b o v e=>(hn' b o v e).elim (hnew b o v) .inr,hd.weaken fun j hj=>?_,fun m v e=>(hE m v e).mono hG' (hse1.trans hs'),hsz,?_,(hncE1.trans hnc').trans hnc3⟩
      ·rcases hj with (((hj | hj) | hj) | hj)
       ·exact .inl hj
       ·exact .inr ⟨hj.1,by show j < top';omega⟩
       ·exact .inr ⟨by omega,by show j < top';omega⟩
       ·exact .inr ⟨by omega,hj.2⟩
      ·have h1:MarksOk Γ.wE a.defers (w3.putObj l (.loop { r3 with state:=.exhausted })):=hds.nc (((hncW.trans hncW1).trans hnc').trans hnc3)
       rcases hW with ⟨rfl,rfl⟩ | ⟨rfl,rfl⟩
       ·exact h1
       ·obtain ⟨rs,b1,b2,b3⟩:=h1
        have hnew':(w.alloc (.deferred (some []))).heap[w.heap.size]? = some (.deferred (some [])):=World.alloc_heap_new _ _
        refine ⟨w.heap.size::rs,List.nodup_cons.2 ⟨fun hin=>?_,b1⟩,by simp [b2],fun r hr=>?_⟩
        ·obtain ⟨rs0,c1,c2,c3⟩:=hds
         have:rs0 = rs:=by
          have:rs0.map Target.collected = rs.map Target.collected:=by rw [← c2,← b2]
          exact (List.map_inj_right (fun a b h=>by injection h)).1 this
         subst this
         have:=(Array.getElem?_eq_some_iff.1 (c3 _ hin).2).1
         omega
        ·rcases List.mem_cons.1 hr with rfl | hr
         ·exact ⟨hnc.size,((hncW1.trans hnc').trans hnc3).oth _ _ hnew' rfl⟩
         ·exact b3 r hr
     have hend:r3.state≠.busy→(Instr.endLoop l).run P w3 = .ok r3.pending (w3.putObj l (.loop { r3 with state:=.exhausted })):=fun h=>run_endLoop hl3 h
     split at hk
     ·rename_i hz
      rw [hz] at hst3
      refine ⟨none,_,(hend (by rw [hst3.1];simp)).trans (congrArg (fun x=>Result.ok x _) hst3.2),?_⟩
      exact ⟨_,hk,hsr⟩
     ·exact hk.elim
     ·rename_i hz
      rw [hz] at hst3
      refine ⟨some .ret,_,(hend (by rw [hst3.1];simp)).trans (congrArg (fun x=>Result.ok x _) hst3.2),?_⟩
      exact wpIn_ret ⟨_,hk,hsr⟩
     ·rename_i id hz
      rw [hz] at hst3
      refine ⟨some (.exit id),_,(hend (by rw [hst3.1];simp)).trans (congrArg (fun x=>Result.ok x _) hst3.2),?_⟩
      exact wpIn_exit ⟨_,hk,hsr⟩
    ·exact hk.elim
  ·exact hw.elim
end Go.Dp
