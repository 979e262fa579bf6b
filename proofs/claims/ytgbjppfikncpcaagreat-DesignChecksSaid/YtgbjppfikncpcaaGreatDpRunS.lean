/- What a run comes to is achieved. -/
import Derived.Test.YtgbjppfikncpcaaGreatDpRun
namespace Go.Dp
open Go.RowKit
set_option linter.unusedSimpArgs false
set_option linter.unusedVariables false
structure TabOk (P:Program) (T:Tab):Prop where
 mix:P.follows .mixedOrders = true
 fn:∀ f fn,T.fn f = some fn→okF P f fn.np fn.c fn.rs = true
 meth:∀ t name f,findMeth t name T.meth = some f→MethP P t name f
variable {P:Program} {T:Tab}
theorem tgt_sound {op:IOp} {rd:Opd→Option V} {H H':Hp} {id:Nat} {v:V} (h:stepOp op rd H id = some (v,H')) :
  (tgt op rd id = none∧H' = H)∨(∃ t,tgt op rd id = some t∧∃ ob,H' = H.put t ob)∨H' = H:=by
 have hk:op.kind = 0∨op.kind = 1∨op.kind = 2∨op.kind = 3:=by cases op <;> simp [IOp.kind]
 rcases hk with hk | hk | hk | hk
 ·exact .inr (.inr (step0 hk h).1)
 ·exact .inr (.inr (step1 hk h).1)
 ·obtain ⟨ob,he,_⟩:=step2 hk h
  refine .inr (.inl ⟨id,?_,ob,he⟩)
  cases op <;> simp [IOp.kind] at hk <;> rfl
 ·cases op <;> simp [IOp.kind] at hk <;> simp only [stepOp] at h <;> (try (cases h;done)) <;> simp only [Option.bind_eq_some_iff,Option.map_eq_some_iff,Prod.mk.injEq] at h
  case store n a x =>
   obtain ⟨p,hp,u,hu,H2,hs,_,rfl⟩:=h
   unfold storeV at hs
   split at hs
   ·split at hs
    ·simp only [Option.bind_eq_some_iff] at hs
     obtain ⟨vc,_,hs⟩:=hs
     split at hs
     ·cases hs;exact .inr (.inl ⟨_,by simp only [tgt,hp];rfl,_,rfl⟩)
     ·cases hs
    ·cases hs
   ·cases hs
  case app sz bytes s x =>
   obtain ⟨p,hp,u,hu,hs⟩:=h
   unfold appV at hs
   simp only [Option.bind_eq_some_iff] at hs
   obtain ⟨⟨es,k⟩,_,hs⟩:=hs
   simp only at hs
   split at hs
   ·split at hs
    ·cases hs;exact .inr (.inl ⟨_,by simp only [tgt,hp],_,rfl⟩)
    ·cases hs
   ·split at hs
    ·split at hs
     ·cases hs;exact .inr (.inl ⟨_,by simp only [tgt,hp];rfl,_,rfl⟩)
     ·cases hs
    ·cases hs
   ·cases hs
  case appx al sz bytes s x =>
   obtain ⟨p,hp,_,_,u,hu,hs⟩:=h
   split at hs
   ·unfold appV at hs
    simp only [Option.bind_eq_some_iff] at hs
    obtain ⟨⟨es,k⟩,_,hs⟩:=hs
    simp only at hs
    split at hs
    ·split at hs
     ·cases hs;exact .inr (.inl ⟨_,by simp only [tgt,hp],_,rfl⟩)
     ·cases hs
    ·split at hs
     ·split at hs
      ·cases hs;exact .inr (.inl ⟨_,by simp only [tgt,hp];rfl,_,rfl⟩)
      ·cases hs
     ·cases hs
    ·cases hs
   ·cases hs
  case appa bs sz bytes s x =>
   obtain ⟨p,hp,u,hu,hs⟩:=h
   split at hs
   ·unfold appV at hs
    simp only [Option.bind_eq_some_iff] at hs
    obtain ⟨⟨es,k⟩,_,hs⟩:=hs
    simp only at hs
    split at hs
    ·split at hs
     ·cases hs;exact .inr (.inl ⟨_,by simp only [tgt,hp],_,rfl⟩)
     ·cases hs
    ·split at hs
     ·split at hs
      ·cases hs;exact .inr (.inl ⟨_,by simp only [tgt,hp];rfl,_,rfl⟩)
      ·cases hs
     ·cases hs
    ·cases hs
   ·cases hs
  case appz sz bytes z s n =>
   obtain ⟨p,hp,u,hu,hs⟩:=h
   unfold appzV at hs
   split at hs
   ·split at hs
    ·split at hs
     ·cases hs;exact .inr (.inl ⟨_,by simp only [tgt,hp],_,rfl⟩)
     ·cases hs
    ·split at hs
     ·split at hs
      ·cases hs;exact .inr (.inl ⟨_,by simp only [tgt,hp];rfl,_,rfl⟩)
      ·cases hs
     ·cases hs
    ·cases hs
   ·cases hs
  case cpy sz d s =>
   obtain ⟨p,hp,u,hu,hs⟩:=h
   unfold cpyV at hs
   simp only [Option.bind_eq_some_iff] at hs
   obtain ⟨⟨es,k⟩,_,hs⟩:=hs
   simp only at hs
   split at hs
   ·cases hs;exact .inr (.inr rfl)
   ·split at hs
    ·split at hs
     ·cases hs;exact .inr (.inl ⟨_,by simp only [tgt,hp];rfl,_,rfl⟩)
     ·cases hs
    ·cases hs
   ·cases hs
  case mput kd m k x =>
   obtain ⟨p,hp,q,hq,u,hu,H2,hs,_,rfl⟩:=h
   unfold mputV at hs
   split at hs
   ·split at hs
    ·split at hs
     ·simp only [Option.map_eq_some_iff] at hs
      obtain ⟨r,_,rfl⟩:=hs
      exact .inr (.inl ⟨_,by simp only [tgt,hp];rfl,_,rfl⟩)
     ·cases hs
    ·cases hs
   ·cases hs
theorem stepR_sound {op:IOp} {rd:Opd→Option V} {h h':HT} {id:Nat} {v:V} (hs:stepR op rd h id = some (v,h')):stepOp op rd h.get id = some (v,h'.get):=by
 unfold stepR at hs
 split at hs
 ·cases hs
 ·rename_i v' H' he
  have same:H' = h.get→∀ t,HT.small t = true→∀ ob,H' t = some ob→(h.put t ob).get = H':=fun e t ht ob ho=>by
   rw [HT.get_put ht,e]
   funext k;simp only [Hp.put];split
   ·rename_i hk;rw [hk,← e,ho]
   ·rfl
  split at hs
  ·rename_i ht
   cases hs
   rcases tgt_sound he with ⟨_,e⟩ | ⟨t,h1,_⟩ | e
   ·rw [he,e]
   ·rw [ht] at h1;cases h1
   ·rw [he,e]
  ·rename_i t ht
   split at hs
   ·rename_i hsm
    split at hs
    ·rename_i ob hob
     cases hs
     rcases tgt_sound he with ⟨h1,_⟩ | ⟨t',h1,ob',e⟩ | e
     ·rw [ht] at h1;cases h1
     ·rw [ht] at h1;cases h1
      rw [he,HT.get_put hsm]
      rw [e] at hob ⊢
      simp [Hp.put] at hob
      rw [hob]
     ·rw [he,same e t hsm ob hob]
    ·cases hs
   ·cases hs
theorem mapST_sound {f:V→HT→Option (V × HT)} {g:V→Hp→Option (V × Hp)} (hf:∀ v h d h',f v h = some (d,h')→g v h.get = some (d,h'.get)):∀ {l:List V} {h:HT} {ds:List V} {h':HT},mapST f l h = some (ds,h')→mapS g l h.get = some (ds,h'.get)
 | [],h,ds,h',e=>by simp [mapST] at e;obtain ⟨rfl,rfl⟩:=e;rfl
 | v::l,h,ds,h',e=>by
  simp only [mapST] at e
  split at e
  ·cases e
  ·rename_i d h1 h1e
   split at e
   ·cases e
   ·rename_i ds' h2 h2e
    cases e
    simp only [mapS,hf _ _ _ _ h1e,Option.bind_some,mapST_sound hf h2e,Option.map_some]
theorem mark_sound {h h':HT} {o k:Nat} (e:h.mark o k = some h'):h'.get = Hp.mark h.get o k:=by
 unfold HT.mark at e
 split at e
 ·rename_i hs
  unfold Hp.mark
  split at e
  ·rename_i ob ho;cases e;simp only [ho,HT.get_put hs]
  ·rename_i ho;cases e;simp only [ho]
 ·cases e
theorem frzT_sound:∀ (n:Nat) (v:V) (h:HT) (d:V) (h':HT),frzT n v h = some (d,h')→frz n v h.get = some (d,h'.get)
 | 0,v,h,d,h',e=>by
  simp only [frzT] at e
  split at e
  ·rename_i ha;cases e;simp only [frz,if_pos ha]
  ·cases e
 | n+1,v,h,d,h',e=>by
  simp only [frzT] at e
  split at e
  ·rename_i o ver off len
   split at e
   ·rename_i ob ho
    split at e
    ·rename_i hc
     split at e
     ·cases e
     ·rename_i ds h1 h1e
      split at e
      ·cases e
      ·rename_i h2 h2e
       cases e
       simp only [frz,ho,if_pos hc,mapST_sound (frzT_sound n) h1e,Option.map_some,mark_sound h2e]
    ·cases e
   ·cases e
  ·rename_i o ver off
   split at e
   ·rename_i ob ho
    split at e
    ·rename_i hc
     split at e
     ·cases e
     ·rename_i ds h1 h1e
      split at e
      ·cases e
      ·rename_i h2 h2e
       cases e
       simp only [frz,ho,if_pos hc,mapST_sound (frzT_sound n) h1e,Option.map_some,mark_sound h2e]
    ·cases e
   ·cases e
  ·split at e
   ·cases e
   ·rename_i h1e
    split at e
    ·cases e
    ·rename_i h2e
     cases e
     simp only [frz,mapST_sound (frzT_sound n) h1e,mapST_sound (frzT_sound n) h2e,Option.bind_some,Option.map_some]
  ·split at e
   ·cases e
   ·rename_i h1e
    cases e
    simp only [frz,frzT_sound n _ _ _ _ h1e,Option.map_some]
  ·split at e
   ·cases e
   ·rename_i h1e
    cases e
    simp only [frz,mapST_sound (frzT_sound n) h1e,Option.map_some]
  ·split at e
   ·cases e
   ·rename_i h1e
    cases e
    simp only [frz,mapST_sound (frzT_sound n) h1e,Option.map_some]
  ·rename_i h1 h2 h3 h4 h5 h6
   split at e
   ·rename_i ha;cases e
    cases v <;> first | exact absurd rfl (h1 _ _ _ _) | exact absurd rfl (h2 _ _ _) | exact absurd rfl (h3 _ _ _) | exact absurd rfl (h4 _ _) | exact absurd rfl (h5 _) | exact absurd rfl (h6 _) | (simp only [frz,if_pos ha])
   ·cases e
theorem opnLT_sound {f:OpnT} {g:OpnF} (hf:∀ v id h d h' id',f v id h = some (d,h',id')→g v id h.get = some (d,h'.get,id')):∀ {l:List V} {id:Nat} {h:HT} {ds:List V} {h':HT} {id':Nat},opnLT f l id h = some (ds,h',id')→opnL g l id h.get = some (ds,h'.get,id')
 | [],id,h,ds,h',id',e=>by simp [opnLT] at e;obtain ⟨rfl,rfl,rfl⟩:=e;rfl
 | v::l,id,h,ds,h',id',e=>by
  simp only [opnLT] at e
  split at e
  ·cases e
  ·rename_i h1e
   split at e
   ·cases e
   ·rename_i h2e
    cases e
    simp only [opnL,hf _ _ _ _ _ _ h1e,Option.bind_some,opnLT_sound hf h2e,Option.map_some]
theorem opn0T_sound (v:V) (id:Nat) (h:HT) (d:V) (h':HT) (id':Nat) (e:opn0T v id h = some (d,h',id')):opn0 v id h.get = some (d,h'.get,id'):=by
 unfold opn0T at e
 split at e
 ·split at e
  ·rename_i hs;cases e;simp only [opn0,HT.get_put hs]
  ·cases e
 ·cases e
 ·cases e
 ·rename_i h1 h2 h3
  cases e
  cases v <;> first | exact absurd rfl (h1 _ _ _) | exact absurd rfl (h2 _) | exact absurd rfl (h3 _) | rfl
theorem opnT_sound:∀ (n:Nat) (v:V) (id:Nat) (h:HT) (d:V) (h':HT) (id':Nat),opnT n v id h = some (d,h',id')→opn n v id h.get = some (d,h'.get,id')
 | 0,v,id,h,d,h',id',e=>opn0T_sound v id h d h' id' e
 | n+1,v,id,h,d,h',id',e=>by
  simp only [opnT] at e
  split at e
  ·split at e
   ·cases e
   ·rename_i h1e;cases e;simp only [opn,opnLT_sound (opnT_sound n) h1e,Option.map_some]
  ·split at e
   ·cases e
   ·rename_i h1e;cases e;simp only [opn,opnLT_sound (opnT_sound n) h1e,Option.map_some]
  ·rename_i h1 h2
   have:=opn0T_sound v id h d h' id' e
   cases v <;> first | exact absurd rfl (h1 _) | exact absurd rfl (h2 _) | exact this
def semY (P:Program):Yc→Ys
 | .nil=>Ys.none
 | .cons o ps asg body fr rest=>(semY P rest).put o fun vs H top Kc=>vs.length = ps.length∧wp P (semY P rest) asg (kAsg o (wp P (semY P rest) body (kRound o Kc))) ⟨putL ps vs fr,H,top⟩
theorem semY_ex:∀ Y:Yc,YEx (semY P Y)
 | .nil=>fun o y e=>by simp [semY,Ys.none] at e
 | .cons o ps asg body fr rest=>fun o' y e vs H top Kc hy=>by
  simp only [semY,Ys.put] at e
  split at e
  ·simp only [Option.some.injEq] at e;subst e;exact hand_ex (semY_ex rest) hy.2
  ·exact semY_ex rest o' y e vs H top Kc hy
theorem find_sem {o:Nat}:∀ {Y:Yc} {ps:List Nat} {asg body:C} {fr:Env} {rest:Yc},Y.find o = some (ps,asg,body,fr,rest) →
  semY P Y o = some fun vs H top Kc=>vs.length = ps.length∧wp P (semY P rest) asg (kAsg o (wp P (semY P rest) body (kRound o Kc))) ⟨putL ps vs fr,H,top⟩
 | .cons o' ps' a b fr' rest',ps,asg,body,fr,rest,e=>by
  simp only [Yc.find] at e
  split at e
  ·rename_i ho;subst ho;cases e;simp [semY,Ys.put]
  ·rename_i ho
   simp only [semY,Ys.put]
   rw [if_neg (Ne.symm ho)]
   exact find_sem e
def RecOk (P:Program) (rec:RunT):Prop:=∀ Y c E h nx e E' h' nx',rec Y c E h nx = .ok (e,E',h',nx')→∀ K:Ex→St→Prop,K e ⟨E',h'.get,nx'⟩→wp P (semY P Y) c K ⟨E,h.get,nx⟩
theorem get_e:(HT.e).get = fun _=>none:=funext HT.get_e
theorem endR_some {rs:List RV} {e:Ex} {E:Env} {h:HT} {nx:Nat} {v:V} (hr:endR rs (e,E,h,nx) = some v):(∀ id,e≠.ex id)∧resV ⟨E,h.get,nx⟩ rs = some v:=by
 cases e with
 | ex id=>simp [endR] at hr
 | nm=>exact ⟨(fun _ h=>Ex.noConfusion h),hr⟩
 | rt=>exact ⟨(fun _ h=>Ex.noConfusion h),hr⟩
theorem pure_of_run (hT:TabOk P T) {rec:RunT} (hrec:RecOk P rec) {f:Nat} {fn:FnT} (hf:T.fn f = some fn) {ds:List V} (hl:ds.length = fn.np) {r:Ex × Env × HT × Nat} (hr:rec .nil fn.c (argE 0 ds) .e 0 = .ok r) {v x:V} {H2:Hp} (hv:endR fn.rs r = some v) (hx:fin 12 fn.sh v r.2.2.1.get = some (x,H2)) :
  PureC P f ds fun r=>r = x:=by
 obtain ⟨e,E',h',nx'⟩:=r
 obtain ⟨hne,hvv⟩:=endR_some hv
 refine pureC_of_wp fn.sh hT.mix (hT.fn f fn hf) hl ?_
 rw [← get_e]
 refine hrec .nil _ _ _ _ _ _ _ _ hr _ ?_
 cases e with
 | ex id=>exact absurd rfl (hne id)
 | nm=>simp only [retP,hvv];simp only at hx;rw [hx]
 | rt=>simp only [retP,hvv];simp only at hx;rw [hx]
theorem mapST_length {f:V→HT→Option (V × HT)}:∀ {l:List V} {h:HT} {ds:List V} {h':HT},mapST f l h = some (ds,h')→ds.length = l.length
 | [],h,ds,h',e=>by simp [mapST] at e;obtain ⟨rfl,rfl⟩:=e;rfl
 | v::l,h,ds,h',e=>by
  simp only [mapST] at e
  split at e
  ·cases e
  ·split at e
   ·cases e
   ·rename_i h2e;cases e;simp [mapST_length h2e]
theorem callR_sound (hT:TabOk P T) {rec:RunT} (hrec:RecOk P rec) {Y:Yc} {fl f:Nat} {vs:List V} {h h':HT} {id top t':Nat} {v:V} (hr:callR T rec Y fl f vs h id top = .ok (v,h',t')) {K:V→Hp→Nat→Prop} (hK:K v h'.get t'):CallW P (semY P Y) fl f vs h.get id top K:=by
 unfold callR at hr
 split at hr
 ·cases hr
 ·rename_i fn hf
  split at hr
  ·cases hr
  ·rename_i hl
   have hl:=Nat.eq_of_beq_eq_true hl
   split at hr
   ·split at hr
    ·cases hr
    ·rename_i ds h1 hm
     split at hr
     ·cases hr
     ·rename_i r hrr
      split at hr
      ·cases hr
      ·rename_i u hu
       split at hr
       ·cases hr
       ·rename_i x H2 hx
        split at hr
        ·cases hr
        ·rename_i d hd
         cases hr
         exact ⟨ds,_,_,mapST_sound (frzT_sound 12) hm,pure_of_run hT hrec hf (by rw [mapST_length hm,hl]) hrr hu hx,⟨_,rfl⟩,fun r e=>by subst e;exact ⟨_,hd,hK⟩⟩
   ·split at hr
    ·cases hr
    ·rename_i ds h1 hm
     split at hr
     ·cases hr
     ·rename_i r hrr
      split at hr
      ·cases hr
      ·rename_i u hu
       split at hr
       ·cases hr
       ·rename_i x H2 hx
        split at hr
        ·cases hr
        ·rename_i d h2 id' hd
         split at hr
         ·rename_i hle
          cases hr
          exact ⟨ds,h1.get,_,mapST_sound (frzT_sound 12) hm,pure_of_run hT hrec hf (by rw [mapST_length hm,hl]) hrr hu hx,⟨_,rfl⟩,fun r e=>by subst e;exact ⟨_,_,id',opnT_sound 3 _ _ _ _ _ _ hd,Nat.le_of_ble_eq_true hle,hK⟩⟩
         ·cases hr
   ·rename_i hn0 hn1
    split at hr
    ·cases hr
    ·rename_i r hrr
     obtain ⟨e,E',h2,nx'⟩:=r
     split at hr
     ·cases hr
     ·rename_i u hu
      obtain ⟨hne,hvv⟩:=endR_some hu
      simp only [Except.ok.injEq,Prod.mk.injEq] at hr
      obtain ⟨e1,e2,e3⟩:=hr
      subst e1;subst e2;subst e3
      have hw:∀ R:V→Hp→Nat→Prop,R u h2.get nx'→wp P (semY P Y) fn.c (retR fn.rs R) ⟨argE 0 vs,h.get,top⟩:=fun R hR=>by
       refine hrec Y _ _ _ _ _ _ _ _ hrr _ ?_
       cases e with
       | ex id=>exact absurd rfl (hne id)
       | nm=>simp only [retR,hvv];exact ⟨_,HS.refl _,hR⟩
       | rt=>simp only [retR,hvv];exact ⟨_,HS.refl _,hR⟩
      obtain ⟨n,rfl⟩:∃ n,fl = n+2:=⟨fl - 2,by
       have h0:fl≠0:=fun e=>hn0 e
       have h1:fl≠1:=fun e=>hn1 e
       omega⟩
      obtain ⟨e2,s2,⟨he2,hs2⟩,hdom⟩:=wp_ex (semY_ex Y) (wp_dom (b:=⟨argE 0 vs,h.get,top⟩) ⟨Nat.le_refl _,fun _ _ h=>h⟩ (hrec Y _ _ _ _ _ _ _ _ hrr (fun e' s'=>e' = e∧s' = ⟨E',h2.get,nx'⟩) ⟨rfl,rfl⟩))
      subst hs2
      exact ⟨fun r H' t=>r = u∧H' = h2.get∧t = nx',refC_of_wp hT.mix (hT.fn f fn hf) hl (hw _ ⟨rfl,rfl,rfl⟩),⟨u,h2.get,nx',⟨rfl,rfl,rfl⟩,hdom.1,hdom.2⟩,fun r H' t ⟨e1,e2,e3⟩ _ _=>by subst e1;subst e2;subst e3;exact hK⟩
theorem yieldR_sound {rec:RunT} (hrec:RecOk P rec) {Y:Yc} {o:Nat} {vs:List V} {h h':HT} {top t':Nat} {v:V} (hr:yieldR rec Y o vs h top = .ok (v,h',t')) {fl id:Nat} (hfl:2≤fl) {K:V→Hp→Nat→Prop} (hK:K v h'.get t'):CallT P (semY P Y) fl (.yl o) vs h.get id top K:=by
 unfold yieldR at hr
 split at hr
 ·cases hr
 ·rename_i ps asg body fr rest hf
  split at hr
  ·rename_i hl hsm
   have hl:=Nat.eq_of_beq_eq_true hl
   refine ⟨hfl,_,fun v1 H1 t1=>v1 = v∧H1 = h'.get∧t1 = t',find_sem hf,fun v1 H1 t1 ⟨a,b,c⟩ _ _=>by subst a;subst b;subst c;exact hK,hl,?_⟩
   split at hr
   ·cases hr
   ·rename_i E1 h1 n1 h1e
    refine hrec rest _ _ _ _ _ _ _ _ h1e _ ?_
    split at hr
    ·rename_i ho1
     refine ⟨ho1,?_⟩
     rw [← HT.get_put hsm]
     split at hr
     ·cases hr
     ·rename_i x E2 h2 n2 h2e
      refine hrec rest _ _ _ _ _ _ _ _ h2e _ ?_
      split at hr
      ·rename_i ho2
       split at hr <;> (cases hr;exact ⟨ho2,rfl,(HT.get_put hsm).symm,rfl⟩)
      ·cases hr
    ·cases hr
   ·cases hr
  ·cases hr
theorem execR_sound (hT:TabOk P T) {rec:RunT} (hrec:RecOk P rec) {Y:Yc} {io:Opr} {E:Env} {h h':HT} {nx top t':Nat} {v:V} (hr:execR T rec Y io E h nx top = .ok (v,h',t')) {K:V→Hp→Nat→Prop} (hK:K v h'.get t'):execIO P (semY P Y) io E h.get nx top K:=by
 unfold execR at hr
 unfold execIO
 split at hr
 ·rename_i f args he
  simp only [he]
  split at hr
  ·rename_i vs hvs;simp only [hvs];exact callR_sound hT hrec hr hK
  ·cases hr
 ·rename_i g args he
  simp only [he]
  split at hr
  ·rename_i f first caps hg
   simp only [hg]
   split at hr
   ·rename_i vs hvs;simp only [hvs];exact callR_sound hT hrec hr hK
   ·cases hr
  ·rename_i name t x first _ hg
   simp only [hg]
   split at hr
   ·rename_i vs hvs
    simp only [hvs]
    split at hr
    ·rename_i f hf;exact ⟨f,hT.meth _ _ _ hf,callR_sound hT hrec hr hK⟩
    ·cases hr
   ·cases hr
  ·rename_i o hg
   simp only [hg]
   split at hr
   ·rename_i vs hvs
    simp only [hvs]
    split at hr
    ·rename_i hfl;exact yieldR_sound hrec hr (Nat.le_of_ble_eq_true hfl) hK
    ·cases hr
   ·cases hr
  ·cases hr
 ·rename_i name r args he
  simp only [he]
  split at hr
  ·rename_i t x hg
   simp only [hg]
   split at hr
   ·rename_i vs hvs
    simp only [hvs]
    split at hr
    ·rename_i f hf;exact ⟨f,hT.meth _ _ _ hf,callR_sound hT hrec hr hK⟩
    ·cases hr
   ·cases hr
  ·cases hr
 ·rename_i neg x y he
  simp only [he]
  split at hr
  ·rename_i u hu hn
   simp only [hu,hn]
   split at hr
   ·rename_i r hri;cases hr;simp only [hri];exact hK
   ·cases hr
  ·cases hr
 ·rename_i h1 h2 h3 h4
  split at hr
  ·rename_i r hst
   obtain ⟨v',h2'⟩:=r
   cases hr
   have hs:=stepR_sound hst
   have:(match stepOp io.op (rdE E) h.get (nx+8 * io.i) with | some r=>K r.1 r.2 top | none=>False):=by rw [hs];exact hK
   cases hop:io.op <;> first | exact absurd hop (h1 _ _) | exact absurd hop (h2 _ _) | exact absurd hop (h3 _ _ _) | exact absurd hop (h4 _ _ _) | (rw [hop] at this;exact this)
  ·cases hr
theorem op1R_sound (hT:TabOk P T) {rec:RunT} (hrec:RecOk P rec) {Y:Yc} {io:Opr} {E E':Env} {h h':HT} {nx top t':Nat} (hr:op1R T rec Y nx io E h top = .ok (E',h',t')) {K:Env→Hp→Nat→Prop} (hK:K E' h'.get t'):wpOp1 P (semY P Y) nx io E h.get top K:=by
 unfold op1R at hr
 unfold wpOp1
 split at hr
 ·rename_i hg
  simp only [hg]
  split at hr
  ·rename_i hx;cases hr;exact execR_sound hT hrec hx hK
  ·cases hr
 ·rename_i s b hg
  simp only [hg]
  split at hr
  ·rename_i c hc
   simp only [hc]
   split at hr
   ·rename_i hcb
    have:c = b:=by simpa using hcb
    rw [if_pos this]
    split at hr
    ·rename_i hx;cases hr;exact execR_sound hT hrec hx hK
    ·cases hr
   ·rename_i hcb
    have:c≠b:=by simpa using hcb
    rw [if_neg this]
    cases hr;exact hK
  ·rename_i l hc;simp only [hc];cases hr;exact hK
  ·cases hr
theorem opsR_sound (hT:TabOk P T) {rec:RunT} (hrec:RecOk P rec) {Y:Yc} {nx:Nat}:∀ {l:List Opr} {E E':Env} {h h':HT} {top t':Nat},opsR T rec Y nx l E h top = .ok (E',h',t')→∀ {K:Env→Hp→Nat→Prop},K E' h'.get t'→wpOps P (semY P Y) nx l E h.get top K
 | [],E,E',h,h',top,t',hr,K,hK=>by simp only [opsR] at hr;cases hr;exact hK
 | io::l,E,E',h,h',top,t',hr,K,hK=>by
  simp only [opsR] at hr
  split at hr
  ·rename_i h1;exact op1R_sound hT hrec h1 (opsR_sound hT hrec hr hK)
  ·cases hr
theorem loop_next {Y:Ys} {keep:List Nat} {a:C} {K:Ex→St→Prop} {st s1:St} (h1:wp P Y a (fun e s=>e = .nm∧s = s1) ⟨keepE st.fr keep,st.H,st.nx⟩) (h2:wp P Y (.loop keep a) K s1):wp P Y (.loop keep a) K st:=by
 obtain ⟨I,μ,⟨H',hH',hI⟩,hst⟩:=h2
 classical
 refine ⟨fun s=>I s∨s = ⟨keepE st.fr keep,st.H,st.nx⟩,fun s=>if I s then μ s else μ ⟨keepE s1.fr keep,H',s1.nx⟩+1,⟨_,HS.refl _,.inr rfl⟩,fun s hs=>?_⟩
 by_cases hi:I s
 ·simp only [if_pos hi]
  refine wp_mono (fun e s' hk=>?_) (hst s hi)
  cases e with
  | nm=>obtain ⟨H2,a1,a2,a3⟩:=hk;exact ⟨H2,a1,.inl a2,by simp only [if_pos a2];exact a3⟩
  | ex _=>exact hk
  | rt=>exact hk
 ·have:s = ⟨keepE st.fr keep,st.H,st.nx⟩:=hs.resolve_left hi
  simp only [if_neg hi]
  rw [this]
  refine wp_mono (fun e s' hk=>?_) h1
  obtain ⟨rfl,rfl⟩:=hk
  exact ⟨H',hH',.inl hI,by simp only [if_pos hI];omega⟩
theorem loop_out {Y:Ys} {keep:List Nat} {a:C} {K:Ex→St→Prop} {st:St} (h1:wp P Y a (fun e s=>e≠.nm∧K e s) ⟨keepE st.fr keep,st.H,st.nx⟩):wp P Y (.loop keep a) K st:=by
 refine ⟨fun s=>s = ⟨keepE st.fr keep,st.H,st.nx⟩,fun _=>0,⟨_,HS.refl _,rfl⟩,fun s hs=>?_⟩
 rw [hs]
 refine wp_mono (fun e s' hk=>?_) h1
 cases e with
 | nm=>exact absurd rfl hk.1
 | ex _=>exact hk.2
 | rt=>exact hk.2
theorem bodyR_sound (hT:TabOk P T) {rec:RunT} (hrec:RecOk P rec):RecOk P (bodyR T rec):=by
 intro Y c E h nx e E' h' nx' hr K hK
 unfold bodyR at hr
 split at hr
 ·cases hr;exact hK
 ·cases hr;exact hK
 ·cases hr;exact hK
 ·cases hr
 ·split at hr
  ·rename_i ho;cases hr;exact opsR_sound hT hrec ho hK
  ·cases hr
 ·rename_i a b
  split at hr
  ·rename_i E1 h1 n1 ha
   exact hrec Y _ _ _ _ _ _ _ _ ha _ ⟨_,_,fun _ _ h=>h,HS.refl _,hrec Y _ _ _ _ _ _ _ _ hr _ hK⟩
  ·rename_i hne
   refine hrec Y _ _ _ _ _ _ _ _ hr _ ?_
   cases e with
   | nm=>exact absurd hr (hne _ _ _)
   | ex _=>exact hK
   | rt=>exact hK
 ·split at hr
  ·rename_i hc;simp only [wp,hc,if_true];exact hrec Y _ _ _ _ _ _ _ _ hr _ hK
  ·rename_i hc;simp only [wp,hc];rw [if_neg (by simp)];exact hrec Y _ _ _ _ _ _ _ _ hr _ hK
  ·cases hr
 ·rename_i id a
  split at hr
  ·rename_i i E1 h1 n1 ha
   refine hrec Y _ _ _ _ _ _ _ _ ha _ ?_
   simp only [kBlk]
   split at hr
   ·rename_i hi;have:=Nat.eq_of_beq_eq_true hi;rw [if_pos this];cases hr;exact hK
   ·rename_i hi;have:=Nat.ne_of_beq_eq_false hi;rw [if_neg this];cases hr;exact hK
  ·rename_i hne
   refine hrec Y _ _ _ _ _ _ _ _ hr _ ?_
   cases e with
   | ex i=>exact absurd hr (hne _ _ _ _)
   | nm=>exact hK
   | rt=>exact hK
 ·rename_i keep a
  split at hr
  ·rename_i E1 h1 n1 ha
   exact loop_next (s1:=⟨E1,h1.get,n1⟩) (hrec Y _ _ _ _ _ _ _ _ ha _ ⟨rfl,rfl⟩) (hrec Y _ _ _ _ _ _ _ _ hr _ hK)
  ·rename_i hne
   refine loop_out (hrec Y _ _ _ _ _ _ _ _ hr _ ⟨fun he=>?_,hK⟩)
   subst he;exact hne _ _ _ hr
 ·rename_i g ps asg body
  split at hr
  ·rename_i f first caps hg
   split at hr
   ·rename_i hsm
    split at hr
    ·cases hr
    ·rename_i h1 t1 hc
     simp only [wp,hg]
     have hk:kRf nx E K h1.get t1:=by
      unfold kRf
      split at hr
      ·rename_i ob ho
       simp only [ho]
       split at hr
       ·rename_i hsp hnl
        refine ⟨⟨hsp,hnl⟩,?_⟩
        rw [← HT.get_del hsm]
        split at hr
        ·rename_i hz;cases hr;simp only [hz];exact hK
        ·cases hr
        ·rename_i hz;cases hr;simp only [hz];exact hK
        ·rename_i id hz;cases hr;simp only [hz];exact hK
       ·cases hr
      ·cases hr
     have:=callR_sound hT hrec hc (K:=fun _ H' t=>kRf nx E K H' t) hk
     rw [HT.get_put hsm] at this
     exact this
   ·cases hr
  ·cases hr
theorem runN_sound (hT:TabOk P T):∀ n,RecOk P (runN T n)
 | 0=>fun Y c E h nx e E' h' nx' hr=>by cases hr
 | n+1=>bodyR_sound hT (runN_sound hT n)
theorem pureC_of_run (hT:TabOk P T) (n:Nat) {f:Nat} {ds:List V} {x:V} (hr:(match callR T (runN T n) .nil 2 f ds .e 0 0 with | .ok (v,h,_)=>(match fin 12 .x v h.get with | some (r,_)=>some r | none=>none) | .error _=>none) = some x):PureC P f ds fun r=>r = x:=by
 split at hr
 ·rename_i v h t hc
  split at hr
  ·rename_i r H2 hf
   cases hr
   unfold callR at hc
   split at hc
   ·cases hc
   ·rename_i fn hfn
    split at hc
    ·cases hc
    ·rename_i hl
     simp only at hc
     split at hc
     ·cases hc
     ·rename_i r hrr
      split at hc
      ·cases hc
      ·rename_i u hu
       cases hc
       obtain ⟨e,E',h',nx'⟩:=r
       obtain ⟨hne,hvv⟩:=endR_some hu
       refine pureC_of_wp .x hT.mix (hT.fn f fn hfn) (Nat.eq_of_beq_eq_true hl) ?_
       rw [← get_e]
       refine runN_sound hT n .nil _ _ _ _ _ _ _ _ hrr _ ?_
       cases e with
       | ex id=>exact absurd rfl (hne id)
       | nm=>simp only [retP,hvv];simp only at hf;rw [hf]
       | rt=>simp only [retP,hvv];simp only at hf;rw [hf]
  ·cases hr
 ·cases hr
inductive BT where
 | e
 | n (k:Nat) (v:FnT) (l r:BT)
def BT.find:BT→Nat→Option FnT
 | .e,_=>none
 | .n k v l r,i=>match i.beq k with
  | true=>some v
  | false=>match i.blt k with
   | true=>l.find i
   | false=>r.find i
def BT.All (P:Program):BT→Prop
 | .e=>True
 | .n k v l r=>okF P k v.np v.c v.rs = true∧l.All P∧r.All P
theorem BT.find_all:∀ {t:BT} {i:Nat} {v:FnT},BT.All P t→BT.find t i = some v→okF P i v.np v.c v.rs = true
 | .e,i,v,_,h=>by cases h
 | .n k v' l r,i,v,h,hf=>by
  simp only [BT.find] at hf
  obtain ⟨h1,h2,h3⟩:=h
  split at hf
  ·rename_i hk;have:=Nat.eq_of_beq_eq_true hk;cases hf;rw [this];exact h1
  ·split at hf
   ·exact BT.find_all h2 hf
   ·exact BT.find_all h3 hf
def methAll (P:Program):List (Nat × String × Nat)→Prop
 | []=>True
 | (t,n,f)::l=>MethP P t n f∧methAll P l
theorem findMeth_all:∀ {l:List (Nat × String × Nat)} {t:Nat} {name:String} {f:Nat},methAll P l→findMeth t name l = some f→MethP P t name f
 | (t',n',f')::l,t,name,f,h,e=>by
  simp only [findMeth] at e
  split at e
  ·rename_i hc;obtain ⟨rfl,rfl⟩:=hc;cases e;exact h.1
  ·exact findMeth_all h.2 e
theorem tabOk_of {B:BT} {l:List (Nat × String × Nat)} (h1:P.follows .mixedOrders = true) (h2:BT.All P B) (h3:methAll P l):TabOk P ⟨B.find,l⟩ :=
 ⟨h1,fun f fn e=>BT.find_all h2 e,fun t name f e=>findMeth_all h3 e⟩
end Go.Dp
