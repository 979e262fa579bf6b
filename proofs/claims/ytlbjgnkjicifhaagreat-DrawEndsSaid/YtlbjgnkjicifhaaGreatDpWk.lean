/- Weaker readings: a nil slice reads as an empty one; contracts under weaker readings. -/
import Derived.Test.YtlbjgnkjicifhaaGreatDpIt
namespace Go.Dp
open Go.RowKit
set_option linter.unusedSimpArgs false
set_option linter.unusedVariables false
def VW (v v':V):Prop:=∀ (G:Gm) (x:Value),DR G v x→DR G v' x
def VWL (l l':List V):Prop:=∀ (G:Gm) (xs:List Value),DRL G l xs→DRL G l' xs
theorem VW.refl (v:V):VW v v:=fun _ _ h=>h
theorem VWL.refl (l:List V):VWL l l:=fun _ _ h=>h
theorem VWL.nil:VWL [] []:=fun _ _ h=>h
theorem VWL.cons {v v':V} {l l':List V} (h:VW v v') (t:VWL l l'):VWL (v::l) (v'::l'):=fun G xs hd=>by
 cases hd with | cons a b=>exact .cons (h G _ a) (t G _ b)
theorem VW.nils:VW .nils (.sl [] 0):=fun G x h=>by cases h;exact .sl0 none 0
theorem VW.agg {l l':List V} (h:VWL l l'):VW (.agg l) (.agg l'):=fun G x hd=>by
 cases hd with | agg a b=>exact .agg (h G _ a) b
theorem VW.tup {l l':List V} (h:VWL l l'):VW (.tup l) (.tup l'):=fun G x hd=>by
 cases hd with | tup a=>exact .tup (h G _ a)
theorem VW.sl {l l':List V} {n:Nat} (h:VWL l l'):VW (.sl l n) (.sl l' n):=fun G x hd=>by
 cases hd with
 | sl0 a c =>
  have:=h G [] .nil
  cases this;exact .sl0 a c
 | sl a b c d=>exact .sl (h G _ a) b c d
theorem VW.fp {l l':List V} {n:Nat} (h:VWL l l'):VW (.fp l n) (.fp l' n):=fun G x hd=>by
 cases hd with | fp a b c=>exact .fp (h G _ a) b c
theorem VW.clo {fn:Fn} {f f' c c':List V} (h:VWL f f') (k:VWL c c'):VW (.clo fn f c) (.clo fn f' c'):=fun G x hd=>by
 cases hd with | clo a b=>exact .clo (h G _ a) (k G _ b)
theorem VWL.append {l l' m m':List V} (h:VWL l l') (k:VWL m m') (hl:l.length = l'.length):VWL (l++m) (l'++m'):=fun G xs hd=>by
 have e:∀ {l m:List V} {xs:List Value},DRL G (l++m) xs→∃ x1 x2,xs = x1++x2∧DRL G l x1∧DRL G m x2:=by
  intro l
  induction l with
  | nil=>intro m xs h;exact ⟨[],xs,rfl,.nil,h⟩
  | cons v l ih =>
   intro m xs h
   cases h with
   | cons a b =>
    obtain ⟨x1,x2,e,h1,h2⟩:=ih b
    exact ⟨_::x1,x2,by rw [e];rfl,.cons a h1,h2⟩
 obtain ⟨x1,x2,rfl,h1,h2⟩:=e hd
 exact (h G _ h1).append (k G _ h2)
theorem VWL.of:∀ {l l':List V} (hl:l.length = l'.length) (h:∀ (i:Nat) (h1:i < l.length) (h2:i < l'.length),VW l[i] l'[i]),VWL l l'
 | [],[],_,_=>.nil
 | [],_::_,hl,_=>by simp at hl
 | _::_,[],hl,_=>by simp at hl
 | v::l,v'::l',hl,h=>.cons (h 0 (by simp) (by simp)) (VWL.of (by simpa using hl) fun i h1 h2=>h (i+1) (by simp;omega) (by simp;omega))
theorem PureC.weak {P:Program} {f:FuncId} {ds ds':List V} {R:V→Prop} (h:PureC P f ds' R) (hw:VWL ds ds'):PureC P f ds R :=
 ⟨h.1,fun G w vals hG hd=>h.2 G w vals hG (hw G vals hd)⟩
def VO (v v':V):Prop:=∀ (G:Gm) (w:World) (lo:Nat) (x:Value) (bs:List Nat),OwnR G w lo v x bs→OwnR G w lo v' x bs
theorem VO.refl (v:V):VO v v:=fun _ _ _ _ _ h=>h
theorem PureC.weakR {P:Program} {f:FuncId} {ds:List V} {e e':V} (h:PureC P f ds (fun r=>r = e)) (hw:VO e e'):PureC P f ds (fun r=>r = e') :=
 ⟨h.1,fun G w vals hG hd=>(h.2 G w vals hG hd).mono fun _ _ ⟨r,x,e1,h1,h2,G',bs,h3,h4,h5,h6,h7⟩=>⟨e',x,e1,rfl,h2,G',bs,h3,h4,h5,hw _ _ _ _ _ (h1 ▸ h6),h7⟩⟩
def VOL (l l':List V):Prop:=∀ (G:Gm) (w:World) (lo:Nat) (xs:List Value) (bs:List Nat),OwnRL G w lo l xs bs→OwnRL G w lo l' xs bs
theorem VOL.nil:VOL [] []:=fun _ _ _ _ _ h=>h
theorem VOL.cons {v v':V} {l l':List V} (h:VO v v') (t:VOL l l'):VOL (v::l) (v'::l'):=fun G w lo xs bs hd=>by
 cases hd with | cons a b=>exact .cons (h _ _ _ _ _ a) (t _ _ _ _ _ b)
theorem VO.nils:VO .nils (.sl [] 0):=fun G w lo x bs h=>by
 cases h with | deep h=>exact .deep (VW.nils G x h)
theorem VO.sl {l l':List V} {n:Nat} (hw:VWL l l'):VO (.sl l n) (.sl l' n):=fun G w lo x bs h=>by
 cases h with | deep h=>exact .deep (VW.sl hw G x h)
theorem VO.fp {l l':List V} {n:Nat} (hw:VWL l l'):VO (.fp l n) (.fp l' n):=fun G w lo x bs h=>by
 cases h with | deep h=>exact .deep (VW.fp hw G x h)
theorem VO.tup {l l':List V} (h:VOL l l') (hw:VWL l l'):VO (.tup l) (.tup l'):=fun G w lo x bs hd=>by
 cases hd with
 | deep a=>exact .deep (VW.tup hw G x a)
 | tup a=>exact .tup (h _ _ _ _ _ a)
theorem VO.agg {l l':List V} (h:VOL l l') (hw:VWL l l'):VO (.agg l) (.agg l'):=fun G w lo x bs hd=>by
 cases hd with
 | deep a=>exact .deep (VW.agg hw G x a)
 | agg a b=>exact .agg (h _ _ _ _ _ a) b
theorem VO.own {l l':List V} {n sz:Nat} (hl:l'.length = l.length) (h:∀ (i:Nat) (h1:i < l.length) (h2:i < l'.length),VW l[i] l'[i]):VO (.own l n sz) (.own l' n sz):=fun G w lo x bs hd=>by
 cases hd with
 | deep a=>cases a
 | own0 sz =>
  cases l' with
  | nil=>exact .own0 sz
  | cons _ _=>simp at hl
 | own h1 h2 h3 h4 h5 h6 h7 =>
  refine .own h1 h2 h3 h4 h5 (by rw [hl];exact h6) fun i v e=>?_
  obtain ⟨h8,rfl⟩:=List.getElem?_eq_some_iff.1 e
  have h9:i < l.length:=by omega
  obtain ⟨x,hx,hr,ho⟩:=h7 i (l[i]'h9) (by simp [h9])
  exact ⟨x,hx,h i h9 h8 _ _ hr,ho⟩
theorem VW.own {l l':List V} {n sz:Nat}:VW (.own l n sz) (.own l' n sz):=fun G x h=>by cases h
section
variable {P:Program} {Y:Ys} {K:Ex→St→Prop} {fr E:Env} {H:Hp} {nx:Nat}
def kItr2 {α:Type} (o:Nat) (E:Env) (K:Ex→St→Prop) (gg:α→Hp) (J:α→Nat→Prop):Ex→St→Prop
 | .nm,st=>∃ x,HS ((gg x).put o (recO 1)) st.H∧J x st.nx∧o < st.nx
 | .rt,st=>∃ H1,HS (H1.put o (recO 1)) st.H∧H1 o = none∧∀ n,st.nx≤n→K .rt ⟨E,H1,n⟩
 | .ex id,st=>∃ H1,HS (H1.put o (recO 1)) st.H∧H1 o = none∧∀ n,st.nx≤n→K (.ex id) ⟨E,H1,n⟩
theorem W.kitr2 {α:Type} {o n:Nat} {gg:α→Hp} {J:α→Nat→Prop} (x:α) (hH:HS ((gg x).put o (recO 1)) H) (hJ:J x n) (hn:o < n):kItr2 o fr K gg J .nm ⟨E,H,n⟩:=⟨x,hH,hJ,hn⟩
theorem W.rfi2 {g:Opd} {ps:List Nat} {asg body:C} {f:FuncId} {first caps:List V} {items:List (List V)} (hit:Iter P f first caps items) (hY:YEx Y) (hg:rdE fr g = some (.clo (.func f) first caps)) (hlen:∀ vs∈items,vs.length = ps.length)
  {α:Type} (gg:α→Hp) (Inv:Nat→α→Nat→Prop) (hmono:∀ i x n n',Inv i x n→n≤n'→Inv i x n') (x0:α) (hH:HS (gg x0) H) (h0:Inv 0 x0 (nx+1)) (hfree:∀ i x n,Inv i x n→gg x nx = none)
  (hround:∀ i vs x n,items[i]? = some vs→Inv i x n→nx < n→wp P Y asg (kAsg nx (wp P Y body (kItr2 nx fr K gg (Inv (i+1))))) ⟨putL ps vs fr,(gg x).put nx (recO 0),n⟩)
  (hend:∀ x n,Inv items.length x n→nx < n→K .nm ⟨fr,gg x,n⟩):wp P Y (.rf g ps asg body) K ⟨fr,H,nx⟩:=by
 simp only [wp,hg]
 let I:Nat→Hp→Nat→Prop:=fun i H t=>∃ x,H = (gg x).put nx (recO 0)∧Inv i x t∧nx < t
 let D:Hp→Nat→Prop:=fun H t=>∃ H1,H1 nx = none∧((H = H1.put nx (recO 2)∧∀ n,t≤n→K .rt ⟨fr,H1,n⟩)∨∃ id,H = H1.put nx (recO (id+3))∧∀ n,t≤n→K (.ex id) ⟨fr,H1,n⟩)
 let y:YH:=fun vs H top Kc=>vs.length = ps.length∧wp P Y asg (kAsg nx (wp P Y body (kRound nx Kc))) ⟨putL ps vs fr,H,top⟩
 have hYy:YEx (Y.put nx y):=fun o z e vs H top Kc hz=>by
  by_cases ho:o = nx
  ·simp only [Ys.put,ho,if_true,Option.some.injEq] at e
   subst e
   exact hand_ex hY hz.2
  ·simp only [Ys.put,ho,if_false] at e
   exact hY o z e vs H top Kc hz
 obtain ⟨h1, h2⟩ := hit Y nx y ((gg x0).put nx (recO 0)) (nx + 1) I D hYy (fun i H t t' ⟨x, a, b, c⟩ h => ⟨x, a, hmono _ _ _ _ b h, by omega⟩)
  (fun H t t' ⟨H1,a,b⟩ h=>⟨H1,a,b.imp (fun ⟨c,d⟩=>⟨c,fun n hn=>d n (by omega)⟩) (fun ⟨id,c,d⟩=>⟨id,c,fun n hn=>d n (by omega)⟩)⟩)
  (fun i vs H top hi ⟨x,a,b,c⟩=>by
   subst a
   refine ⟨hlen vs (List.mem_of_getElem? hi),wp_mono (fun e s hk=>?_) (hround i vs x top hi b c)⟩
   cases e with
   | ex _=>exact hk.elim
   | rt=>exact hk.elim
   | nm =>
    obtain ⟨hk1,hk2⟩:=hk
    refine ⟨hk1,wp_mono (fun e s2 hk=>?_) hk2⟩
    cases e with
    | nm =>
     obtain ⟨x',hs',hJ,hn⟩:=hk
     exact ⟨hs'.at',(gg x').put nx (recO 0),hs'.reput,.inl ⟨rfl,x',rfl,hJ,hn⟩⟩
    | rt =>
     obtain ⟨H1,hs',hf,hk⟩:=hk
     exact ⟨hs'.at',H1.put nx (recO 2),hs'.reput,.inr ⟨rfl,H1,hf,.inl ⟨rfl,hk⟩⟩⟩
    | ex id =>
     obtain ⟨H1,hs',hf,hk⟩:=hk
     exact ⟨hs'.at',H1.put nx (recO (id+3)),hs'.reput,.inr ⟨rfl,H1,hf,.inr ⟨id,rfl,hk⟩⟩⟩) ⟨x0,rfl,h0,by omega⟩
 have hs:HS ((gg x0).put nx (recO 0)) (H.put nx (recO 0)):=HS.put rfl hH
 refine ⟨_,h1.sub hs,?_,fun r H' t hR ht hd=>?_⟩
 ·obtain ⟨r,H',t,a,b,c⟩:=h2
  refine ⟨r,H',t,a,b,fun j hj hn=>c j hj ?_⟩
  cases e2:((gg x0).put nx (recO 0)) j with
  | none=>rfl
  | some ob=>have:=hs j ob e2;rw [hn] at this;cases this
 ·rcases hR with ⟨x,rfl,hi,hlt⟩ | ⟨H1,hf,⟨rfl,hk⟩ | ⟨id,rfl,hk⟩⟩
  ·refine kRf0 (by simp [Hp.put]) ?_
   rw [del_put (hfree _ _ _ hi)];exact hend x t hi hlt
  ·refine kRf2 (by simp [Hp.put]) ?_
   rw [del_put hf];exact hk t (Nat.le_refl _)
  ·refine kRf3 (id := id) (by simp [Hp.put]) ?_
   rw [del_put hf];exact hk t (Nat.le_refl _)
end
section
variable {P:Program} {Y:Ys} {K:Ex→St→Prop} {fr E:Env} {H:Hp} {nx:Nat}
theorem W.rfw {g:Opd} {ps:List Nat} {asg body:C} {f:FuncId} {np:Nat} {c:C} {rs:List RV} {first caps:List V} (hm:P.follows .mixedOrders = true) (hok:okF P f np c rs = true) (hl:first.length+1+caps.length = np) (hY:YEx Y) (hg:rdE fr g = some (.clo (.func f) first caps)) (R:Hp→Nat→Prop)
  (hw:∀ y:YH,(y = fun vs H top Kc=>vs.length = ps.length∧wp P Y asg (kAsg nx (wp P Y body (kRound nx Kc))) ⟨putL ps vs fr,H,top⟩)→YEx (Y.put nx y)→wp P (Y.put nx y) c (Go.Dp.retR rs fun _ H' t=>R H' t) ⟨argE 0 (first++[.yld nx]++caps),H.put nx (recO 0),nx+1⟩)
  (hk:∀ H' t,R H' t→nx < t→kRf nx fr K H' t):wp P Y (.rf g ps asg body) K ⟨fr,H,nx⟩:=by
 simp only [wp,hg]
 have hYy:YEx (Y.put nx fun vs H top Kc=>vs.length = ps.length∧wp P Y asg (kAsg nx (wp P Y body (kRound nx Kc))) ⟨putL ps vs fr,H,top⟩):=fun o z e vs H top Kc hz=>by
  by_cases ho:o = nx
  ·simp only [Ys.put,ho,if_true,Option.some.injEq] at e
   subst e
   exact hand_ex hY hz.2
  ·simp only [Ys.put,ho,if_false] at e
   exact hY o z e vs H top Kc hz
 have hw':=hw _ rfl hYy
 have hw2:=wp_ex hYy (wp_dom (b:=⟨argE 0 (first++[.yld nx]++caps),H.put nx (recO 0),nx+1⟩) ⟨Nat.le_refl _,fun _ _ h=>h⟩ hw')
 refine ⟨fun _ H' t=>R H' t,refC_of_wp hm hok (by simp;omega) hw',?_,fun r H' t a b _=>hk H' t a (by omega)⟩
 obtain ⟨e,s,hk,hd⟩:=hw2
 cases e with
 | ex _=>exact hk.elim
 | nm =>
  unfold Go.Dp.retR at hk
  simp only at hk
  split at hk
  ·obtain ⟨H',hH',hk⟩:=hk
   refine ⟨.nilp,H',s.nx,hk,hd.1,fun j hj hn=>?_⟩
   cases e:H' j with
   | none=>rfl
   | some ob=>have:=hH' j ob e;rw [hd.2 j hj hn] at this;cases this
  ·exact hk.elim
 | rt =>
  unfold Go.Dp.retR at hk
  simp only at hk
  split at hk
  ·obtain ⟨H',hH',hk⟩:=hk
   refine ⟨.nilp,H',s.nx,hk,hd.1,fun j hj hn=>?_⟩
   cases e:H' j with
   | none=>rfl
   | some ob=>have:=hH' j ob e;rw [hd.2 j hj hn] at this;cases this
  ·exact hk.elim
end
theorem HS.p {A B : Hp} {o : Nat} {ob : Ob} (h2 : HS A B) (h1 : B o = some ob := by (simp (disch := omega) only [put_same, put_ne, ne_eq] <;> rfl)) : HS (A.put o ob) B := fun i x e => by
 simp only [Hp.put] at e
 split at e
 ·rename_i hc;rw [hc,h1];exact e
 ·exact h2 i x e
theorem W.kasg2 {o n:Nat} {k:St→Prop} {E:Env} {H H':Hp} (ho:H o = some (recO 0)) (hH:H.put o (recO 1) = H') (h:k ⟨E,H',n⟩):kAsg o k .nm ⟨E,H,n⟩:=by
 subst hH;exact ⟨ho,h⟩
attribute [go_sem] Option.isNone_none Option.isNone_some Bool.true_or Bool.false_or
@[go_sem] theorem some_bne {k a:Nat} (h:k≠a):(some k != some a) = true:=by simp [h]
theorem put_comm {H:Hp} {o o':Nat} {x y:Ob} (h:o≠o'):(H.put o x).put o' y = (H.put o' y).put o x:=by
 funext i;simp only [Hp.put];split <;> split <;> first | rfl | omega
theorem load_box {s o:Nat} {E:Env} {H:Hp} {id:Nat} {v:V} (hl:look s E = some (.ptr o 0 0)) (hH:H o = some { cells:=[v],sz:=1 }):stepOp (.load none (.t s)) (rdE E) H id = some (v,H):=by
 simp [stepOp,rdE,hl,V.cellsAt,hH,loadV]
theorem VRL.split {G:Gm} {σ:Sg}:∀ {l m:List V} {xs:List Value},VRL G σ (l++m) xs→∃ x1 x2,xs = x1++x2∧VRL G σ l x1∧VRL G σ m x2
 | [],m,xs,h=>⟨[],xs,rfl,.nil,h⟩
 | v::l,m,_,.cons a b=>let ⟨x1,x2,e,h1,h2⟩:=VRL.split b;⟨_::x1,x2,by rw [e];rfl,.cons a h1,h2⟩
theorem RefC.frz1 {P:Program} {Y:Ys} {f:FuncId} {l1 l2:List V} {v d:V} {H H1:Hp} {top:Nat} {R:V→Hp→Nat→Prop} (hf:frz 12 v H = some (d,H1)) (h:RefC P Y f (l1++d::l2) H1 top R):RefC P Y f (l1++v::l2) H top R:=by
 refine ⟨h.1,fun w0 w G σ D vals hrel hD hvs hY=>?_⟩
 obtain ⟨x1,x2,rfl,hv1,hv2⟩:=VRL.split hvs
 cases hv2 with
 | cons hx ht =>
  obtain ⟨hx1,G1,hG1,hn1,hr1,hd1⟩:=frz_sound 12 _ _ _ _ _ _ hf hrel hx
  refine (h.2 w0 w G1 σ D _ hr1 hD ((hv1.mono hG1 (SExt.refl _)).append (.cons (.deep hd1) (ht.mono hG1 (SExt.refl _)))) (hY.mono hrel.old.size hG1 (SExt.refl _) (NC.refl _))).mono ?_
  rintro e w' ⟨r,x,H',top',G',σ',e1,k1,k2,k3,k4,k5,k6,k7,k8,k9⟩
  refine ⟨r,x,H',top',G',σ',e1,k1,k2,fun j hj hn=>k3 j hj (hx1.none hn),k4,hG1.trans k5,fun b o v e=>?_,k7,k8,k9⟩
  rcases k6 _ _ _ e with e | e
  ·rcases hn1 _ _ _ e with e | e
   ·exact .inl e
   ·exact .inr (e.le hrel)
  ·exact .inr e
section
variable {P:Program} {T:Tab}
theorem pureC_of_runS (sh:Sh) (hT:TabOk P T) (n:Nat) {f:Nat} {ds:List V} {x:V} (hr:(match callR T (runN T n) .nil 2 f ds .e 0 0 with | .ok (v,h,_)=>(match fin 12 sh v h.get with | some (r,_)=>some r | none=>none) | .error _=>none) = some x):PureC P f ds fun r=>r = x:=by
 split at hr
 ·rename_i v h t hc
  split at hr
  ·rename_i r H2 hf
   cases hr
   unfold callR at hc
   split at hc
   ·cases hc
   ·rename_i fn hfn
    split at hc
    ·cases hc
    ·rename_i hl
     simp only at hc
     split at hc
     ·cases hc
     ·rename_i r hrr
      split at hc
      ·cases hc
      ·rename_i u hu
       cases hc
       obtain ⟨e,E',h',nx'⟩:=r
       obtain ⟨hne,hvv⟩:=endR_some hu
       refine pureC_of_wp sh hT.mix (hT.fn f fn hfn) (Nat.eq_of_beq_eq_true hl) ?_
       rw [← get_e]
       refine runN_sound hT n .nil _ _ _ _ _ _ _ _ hrr _ ?_
       cases e with
       | ex id=>exact absurd rfl (hne id)
       | nm=>simp only [retP,hvv];simp only at hf;rw [hf]
       | rt=>simp only [retP,hvv];simp only at hf;rw [hf]
  ·cases hr
 ·cases hr
end
theorem W.kround {o n:Nat} {Kc:V→Hp→Nat→Prop} {E:Env} {H:Hp} (h1:H o = some (recO 1)) (h2:Kc (.bool true) (H.put o (recO 0)) n):kRound o Kc .nm ⟨E,H,n⟩:=⟨h1,h2⟩
end Go.Dp
