import Derived.Test.YtlbjgnkjicifhaaGreatDpE
import Derived.Test.YtlbjgnkjicifhaaGreatDwE8
namespace Go.Dp
open Go.RowKit
set_option linter.unusedSimpArgs false
set_option linter.unusedVariables false
def Iter (P:Program) (f:FuncId) (first caps:List V) (items:List (List V)):Prop :=
 ∀ (Y:Ys) (o:Nat) (y:YH) (H:Hp) (top:Nat) (I:Nat→Hp→Nat→Prop) (D:Hp→Nat→Prop),YEx (Y.put o y) →
  (∀ i H t t',I i H t→t≤t'→I i H t')→(∀ H t t',D H t→t≤t'→D H t') →
  (∀ i vs H top,items[i]? = some vs→I i H top→y vs H top (fun v H' t=>∃ H1,HS H1 H'∧((v = .bool true∧I (i+1) H1 t)∨(v = .bool false∧D H1 t)))) →
  I 0 H top→RefC P (Y.put o y) f (first++[.yld o]++caps) H top (fun _ H' t=>I items.length H' t∨D H' t)∧∃ r H' t,(fun (_:V) H' t=>I items.length H' t∨D H' t) r H' t∧top≤t∧∀ j,j < top→H j = none→H' j = none
theorem YEx.none:YEx Ys.none:=fun _ _ e=>by cases e
theorem iter_of_wp {P:Program} {f:FuncId} {np:Nat} {c:C} {rs:List RV} {first caps:List V} {items:List (List V)} (hm:P.follows .mixedOrders = true) (hok:okF P f np c rs = true) (hl:first.length+1+caps.length = np)
  (h:∀ (Y:Ys) (o:Nat) (y:YH) (H:Hp) (top:Nat) (I:Nat→Hp→Nat→Prop) (D:Hp→Nat→Prop),(∀ i H t t',I i H t→t≤t'→I i H t')→(∀ H t t',D H t→t≤t'→D H t') →
   (∀ i vs H top,items[i]? = some vs→I i H top→y vs H top (fun v H' t=>∃ H1,HS H1 H'∧((v = .bool true∧I (i+1) H1 t)∨(v = .bool false∧D H1 t)))) →
   I 0 H top→wp P (Y.put o y) c (retR rs (fun _ H' t=>I items.length H' t∨D H' t)) ⟨argE 0 (first++[.yld o]++caps),H,top⟩):Iter P f first caps items:=by
 intro Y o y H top I D hY h1 h2 h3 h4
 have hw:=h Y o y H top I D h1 h2 h3 h4
 refine ⟨refC_of_wp hm hok (by simp;omega) hw,?_⟩
 obtain ⟨e,s,hk,hd⟩:=wp_ex hY (wp_dom (b:=⟨argE 0 (first++[.yld o]++caps),H,top⟩) ⟨Nat.le_refl _,fun _ _ h=>h⟩ hw)
 cases e with
 | ex _=>exact hk.elim
 | nm =>
  unfold retR at hk
  simp only at hk
  split at hk
  ·obtain ⟨H',hH',hk⟩:=hk
   refine ⟨.nilp,H',s.nx,hk,hd.1,fun j hj hn=>?_⟩
   cases e:H' j with
   | none=>rfl
   | some ob=>have:=hH' j ob e;rw [hd.2 j hj hn] at this;cases this
  ·exact hk.elim
 | rt =>
  unfold retR at hk
  simp only at hk
  split at hk
  ·obtain ⟨H',hH',hk⟩:=hk
   refine ⟨.nilp,H',s.nx,hk,hd.1,fun j hj hn=>?_⟩
   cases e:H' j with
   | none=>rfl
   | some ob=>have:=hH' j ob e;rw [hd.2 j hj hn] at this;cases this
  ·exact hk.elim
theorem Ys.put_same (Y:Ys) (o:Nat) (y:YH):Y.put o y o = some y:=by simp [Ys.put]
section
variable {P:Program} {Y:Ys} {K:Ex→St→Prop} {fr E:Env} {H:Hp} {nx:Nat}
theorem W.yl2 {o:Nat} {vs:List V} {H:Hp} {id top fl:Nat} {y:YH} {K K0:V→Hp→Nat→Prop} (hy:Y o = some y) (h:y vs H top K0) (hk:∀ v H' t,K0 v H' t→top≤t→K v H' t):CallT P Y (fl+2) (.yl o) vs H id top K :=
 ⟨by omega,y,K0,hy,fun v H' t h1 h2 _=>hk v H' t h1 h2,h⟩
theorem W.kl0 {keep:List Nat} {I:St→Prop} {μ:St→Nat} {m:Nat} (H':Hp) (hH:HS H' H) (hI:I ⟨keepE E keep,H',nx⟩) (hm:μ ⟨keepE E keep,H',nx⟩ < m):kLoop keep I μ m K .nm ⟨E,H,nx⟩:=⟨H',hH,hI,hm⟩
def kItr {α:Type} (o:Nat) (E:Env) (K:Ex→St→Prop) (gg:α→Hp) (J:α→Prop):Ex→St→Prop
 | .nm,st=>∃ x,HS ((gg x).put o (recO 1)) st.H∧J x∧o < st.nx
 | .rt,st=>∃ H1,HS (H1.put o (recO 1)) st.H∧H1 o = none∧∀ n,st.nx≤n→K .rt ⟨E,H1,n⟩
 | .ex id,st=>∃ H1,HS (H1.put o (recO 1)) st.H∧H1 o = none∧∀ n,st.nx≤n→K (.ex id) ⟨E,H1,n⟩
theorem W.kasg {o:Nat} {k:St→Prop} {H0:Hp} {n:Nat} (h:k ⟨E,H0.put o (recO 1),n⟩):kAsg o k .nm ⟨E,H0.put o (recO 0),n⟩:=by
 refine ⟨by simp [Hp.put],?_⟩
 have:(H0.put o (recO 0)).put o (recO 1) = H0.put o (recO 1):=by funext i;simp only [Hp.put];split <;> rfl
 show k ⟨E,(H0.put o (recO 0)).put o (recO 1),n⟩
 rw [this];exact h
theorem W.kitr {α:Type} {o n:Nat} {gg:α→Hp} {J:α→Prop} (x:α) (hH:HS ((gg x).put o (recO 1)) H) (hJ:J x) (hn:o < n):kItr o fr K gg J .nm ⟨E,H,n⟩:=⟨x,hH,hJ,hn⟩
theorem W.kitrR {α:Type} {o n:Nat} {gg:α→Hp} {J:α→Prop} (H1:Hp) (hH:HS (H1.put o (recO 1)) H) (h0:H1 o = none) (hk:∀ m,n≤m→K .rt ⟨fr,H1,m⟩):kItr o fr K gg J .rt ⟨E,H,n⟩:=⟨H1,hH,h0,hk⟩
theorem HS.reput {A B:Hp} {o:Nat} {a b:Ob} (h:HS (A.put o a) B):HS (A.put o b) (B.put o b):=fun i x e=>by
 simp only [Hp.put] at e ⊢
 split at e
 ·rename_i hc;rw [if_pos hc];exact e
 ·rename_i hc;rw [if_neg hc];exact h i x (by simp only [Hp.put];rw [if_neg hc];exact e)
theorem HS.at' {A B:Hp} {o:Nat} {a:Ob} (h:HS (A.put o a) B):B o = some a:=h o a (by simp [Hp.put])
theorem HS.trans {a b c:Hp} (h:HS a b) (k:HS b c):HS a c:=fun o x e=>k o x (h o x e)
theorem del_put {A:Hp} {o:Nat} {a:Ob} (h:A o = none):(A.put o a).del o = A:=by
 funext i;simp only [Hp.put,Hp.del]
 split
 ·rename_i hc;subst hc;exact h.symm
 ·rfl
theorem RefC.sub {f:FuncId} {vs:List V} {H H2:Hp} {top:Nat} {R:V→Hp→Nat→Prop} (h:RefC P Y f vs H top R) (hs:HS H H2):RefC P Y f vs H2 top R :=
 ⟨h.1,fun w0 w G σ D vals h1 h2 h3 h4=>(h.2 w0 w G σ D vals (h1.sub hs) h2 h3 h4).mono fun _ _ ⟨r,x,H',t',G',σ',e,a,b,c,d⟩=>⟨r,x,H',t',G',σ',e,a,b,fun j hj hn=>c j hj (by
  cases e2:H j with
  | none=>rfl
  | some ob=>have:=hs j ob e2;rw [hn] at this;cases this),d⟩⟩
theorem kRf0 {o t:Nat} (h:H o = some (recO 0)) (k:K .nm ⟨E,H.del o,t⟩):kRf o E K H t:=by
 unfold kRf;rw [h];exact ⟨⟨rfl,rfl⟩,k⟩
theorem kRf2 {o t:Nat} (h:H o = some (recO 2)) (k:K .rt ⟨E,H.del o,t⟩):kRf o E K H t:=by
 unfold kRf;rw [h];exact ⟨⟨rfl,rfl⟩,k⟩
theorem kRf3 {o t id:Nat} (h:H o = some (recO (id+3))) (k:K (.ex id) ⟨E,H.del o,t⟩):kRf o E K H t:=by
 unfold kRf;rw [h];exact ⟨⟨rfl,rfl⟩,k⟩
theorem W.rfi {g:Opd} {ps:List Nat} {asg body:C} {f:FuncId} {first caps:List V} {items:List (List V)} (hit:Iter P f first caps items) (hY:YEx Y) (hg:rdE fr g = some (.clo (.func f) first caps)) (hlen:∀ vs∈items,vs.length = ps.length)
  {α:Type} (gg:α→Hp) (Inv:Nat→α→Prop) (x0:α) (hH:HS (gg x0) H) (h0:Inv 0 x0) (hfree:∀ i x,Inv i x→gg x nx = none)
  (hround:∀ i vs x n,items[i]? = some vs→Inv i x→nx < n→wp P Y asg (kAsg nx (wp P Y body (kItr nx fr K gg (Inv (i+1))))) ⟨putL ps vs fr,(gg x).put nx (recO 0),n⟩)
  (hend:∀ x n,Inv items.length x→nx < n→K .nm ⟨fr,gg x,n⟩):wp P Y (.rf g ps asg body) K ⟨fr,H,nx⟩:=by
 simp only [wp,hg]
 let I:Nat→Hp→Nat→Prop:=fun i H t=>∃ x,H = (gg x).put nx (recO 0)∧Inv i x∧nx < t
 let D:Hp→Nat→Prop:=fun H t=>∃ H1,H1 nx = none∧((H = H1.put nx (recO 2)∧∀ n,t≤n→K .rt ⟨fr,H1,n⟩)∨∃ id,H = H1.put nx (recO (id+3))∧∀ n,t≤n→K (.ex id) ⟨fr,H1,n⟩)
 let y:YH:=fun vs H top Kc=>vs.length = ps.length∧wp P Y asg (kAsg nx (wp P Y body (kRound nx Kc))) ⟨putL ps vs fr,H,top⟩
 have hYy:YEx (Y.put nx y):=fun o z e vs H top Kc hz=>by
  by_cases ho:o = nx
  ·simp only [Ys.put,ho,if_true,Option.some.injEq] at e
   subst e
   exact hand_ex hY hz.2
  ·simp only [Ys.put,ho,if_false] at e
   exact hY o z e vs H top Kc hz
 obtain ⟨h1, h2⟩ := hit Y nx y ((gg x0).put nx (recO 0)) (nx + 1) I D hYy (fun i H t t' ⟨x, a, b, c⟩ h => ⟨x, a, b, by omega⟩)
  (fun H t t' ⟨H1,a,b⟩ h=>⟨H1,a,b.imp (fun ⟨c,d⟩=>⟨c,fun n hn=>d n (by omega)⟩) (fun ⟨id,c,d⟩=>⟨id,c,fun n hn=>d n (by omega)⟩)⟩)
  (fun i vs H top hi ⟨x,a,b,c⟩=>by
   subst a
   refine ⟨hlen vs (List.mem_of_getElem? hi),wp_mono (fun e s hk=>?_) (hround i vs x top hi b c)⟩
   cases e with
   | ex _=>exact hk.elim
   | rt=>exact hk.elim
   | nm =>
    obtain ⟨hk1,hk2⟩:=hk
    refine ⟨hk1,wp_mono (fun e s2 hk=>?_) hk2⟩
    cases e with
    | nm =>
     obtain ⟨x',hs',hJ,hn⟩:=hk
     exact ⟨hs'.at',(gg x').put nx (recO 0),hs'.reput,.inl ⟨rfl,x',rfl,hJ,hn⟩⟩
    | rt =>
     obtain ⟨H1,hs',hf,hk⟩:=hk
     exact ⟨hs'.at',H1.put nx (recO 2),hs'.reput,.inr ⟨rfl,H1,hf,.inl ⟨rfl,hk⟩⟩⟩
    | ex id =>
     obtain ⟨H1,hs',hf,hk⟩:=hk
     exact ⟨hs'.at',H1.put nx (recO (id+3)),hs'.reput,.inr ⟨rfl,H1,hf,.inr ⟨id,rfl,hk⟩⟩⟩) ⟨x0,rfl,h0,by omega⟩
 have hs:HS ((gg x0).put nx (recO 0)) (H.put nx (recO 0)):=HS.put rfl hH
 refine ⟨_,h1.sub hs,?_,fun r H' t hR ht hd=>?_⟩
 ·obtain ⟨r,H',t,a,b,c⟩:=h2
  refine ⟨r,H',t,a,b,fun j hj hn=>c j hj ?_⟩
  cases e2:((gg x0).put nx (recO 0)) j with
  | none=>rfl
  | some ob=>have:=hs j ob e2;rw [hn] at this;cases this
 ·rcases hR with ⟨x,rfl,hi,hlt⟩ | ⟨H1,hf,⟨rfl,hk⟩ | ⟨id,rfl,hk⟩⟩
  ·refine kRf0 (by simp [Hp.put]) ?_
   rw [del_put (hfree _ _ hi)];exact hend x t hi hlt
  ·refine kRf2 (by simp [Hp.put]) ?_
   rw [del_put hf];exact hk t (Nat.le_refl _)
  ·refine kRf3 (id := id) (by simp [Hp.put]) ?_
   rw [del_put hf];exact hk t (Nat.le_refl _)
end
end Go.Dp
namespace Go.Dp
open Go.RowKit Go.Proofs
attribute [local irreducible] wp wpOps wpOp1 CallW CallT kSeq kBlk kLoop kReg retP retR kAsg kRound kRf kCut kItr
set_option linter.unusedVariables false
set_option linter.unusedSimpArgs false
abbrev cfgV (R P G H B K:Int):V:=.agg [.int .i64 R,.int .i64 P,.int .i64 G,.int .i64 H,.int .i64 B,.int .i64 K]
def CfgI (P H B K:Int):Prop:=(2≤H∧H≤16∧H < P)∧(0≤B∧B < H)∧(1≤K∧K≤90)
set_option maxRecDepth 10000 in
theorem k36 {R P G H B K:Int} (h:GroupI R P G) (hc:CfgI P H B K):PureC Tryz.prog 36 [cfgV R P G H B K] (fun r=>r = .int .i64 0):=by
 have c1:=k88 h
 have hP:=h.hP
 obtain ⟨h1,h2,h3⟩:=hc
 clear h
 refine pureC_of_wp .x mixed ok36 rfl ?_
 unfold c36
 dsimp only [argE]
 refine W.run ?_
 rfl
end Go.Dp
namespace Go.Dp
open Go.RowKit Go.Proofs
attribute [local irreducible] wp wpOps wpOp1 CallW CallT kSeq kBlk kLoop kReg retP retR kAsg kRound kRf kCut
set_option linter.unusedVariables false
end Go.Dp
