/- Operations that may change places. -/
import Derived.Test.YtgbjppfikncpcaaGreatDpWpS
namespace Go.Dp
open Go.RowKit
set_option linter.unusedSimpArgs false
set_option linter.unusedVariables false
def IOp.opds:IOp→List Opd
 | .mv x | .box _ x | .load _ x | .nilc x | .un _ x | .cvt _ x | .mkif _ x | .faddr _ x | .fld _ _ x | .ext _ x | .slen x | .len _ x=>[x]
 | .pick c a b=>[c,a,b]
 | .alloc .. | .nilo ..=>[]
 | .build _ ps | .bsl _ _ _ ps=>ps.map (·.2.2)
 | .store _ a x=>[a,x]
 | .bin _ x y | .eqb _ x y | .eqn _ _ x y | .eqa _ x y | .mksl _ _ _ x y | .iaddr _ _ x y | .aidx _ _ _ x y | .app _ _ x y | .cpy _ x y=>[x,y]
 | .mkfn _ f c=>f++c
 | .slc _ _ x lo hi m=>x::(lo.toList++hi.toList++m.toList)
 | .mn xs | .mx xs | .call _ xs=>xs
 | .callv g xs | .inv _ g xs=>g::xs
 | .loadx _ x bs=>x::bs.map .t
 | .appx al _ _ x y=>[x,.t al,y]
 | .loada _ x al=>[x,.t al]
 | .appa bs _ _ x y=>x::y::bs.map .t
 | .appz _ _ _ x y | .sidx x y | .lkp _ _ _ x y=>[x,y]
 | .mput _ x y z=>[x,y,z]
 | .eqs _ _ x y=>[x,y]
 | .mkm | .bad=>[]
theorem rdL_congr {rd rd':Opd→Option V}:∀ {l:List Opd},(∀ x∈l,rd x = rd' x)→rdL rd l = rdL rd' l
 | [],_=>rfl
 | x::l,h=>by simp only [rdL];rw [h x (by simp),rdL_congr fun y hy=>h y (by simp [hy])]
theorem rdParts_congr {rd rd':Opd→Option V}:∀ {l:List (Nat × Nat × Opd)},(∀ x∈l.map (·.2.2),rd x = rd' x)→rdParts rd l = rdParts rd' l
 | [],_=>rfl
 | (a,b,x)::l,h=>by simp only [rdParts];rw [h x (by simp),rdParts_congr fun y hy=>h y (by simp at hy ⊢;exact .inr hy)]
theorem rdO_congr {rd rd':Opd→Option V} {l:Option Opd} (h:∀ x∈l.toList,rd x = rd' x):rdO rd l = rdO rd' l:=by
 cases l with
 | none=>rfl
 | some x=>simp only [rdO];rw [h x (by simp)]
theorem apartV_congr {rd rd':Opd→Option V} {p:V}:∀ {bs:List Nat},(∀ b∈bs,rd (.t b) = rd' (.t b))→apartV rd p bs = apartV rd' p bs
 | [],_=>rfl
 | b::bs,h=>by simp only [apartV];rw [h b (by simp),apartV_congr fun c hc=>h c (by simp [hc])]
theorem stepOp_congr {op:IOp} {rd rd':Opd→Option V} {H:Hp} {id:Nat} (h:∀ x∈op.opds,rd x = rd' x):stepOp op rd H id = stepOp op rd' H id:=by
 cases op with
 | build z ps=>simp only [stepOp];rw [rdParts_congr h]
 | bsl a b z ps=>simp only [stepOp];rw [rdParts_congr h]
 | mkfn fn f c =>
  simp only [IOp.opds,List.mem_append] at h
  simp only [stepOp];rw [rdL_congr fun x hx=>h x (.inl hx),rdL_congr fun x hx=>h x (.inr hx)]
 | slc a b x lo hi mx =>
  simp only [IOp.opds,List.mem_cons,List.mem_append] at h
  simp only [stepOp];rw [h x (.inl rfl),rdO_congr fun x hx=>h x (.inr (.inl (.inl hx))),rdO_congr fun x hx=>h x (.inr (.inl (.inr hx))),rdO_congr fun x hx=>h x (.inr (.inr hx))]
 | loadx n x bs =>
  simp only [IOp.opds,List.mem_cons,List.mem_map] at h
  simp only [stepOp];rw [h x (.inl rfl)]
  congr 1;funext p;rw [apartV_congr fun b hb=>h (.t b) (.inr ⟨b,hb,rfl⟩)]
 | appa bs sz bytes s x =>
  simp only [IOp.opds,List.mem_cons,List.mem_map] at h
  simp only [stepOp];rw [h s (.inl rfl),h x (.inr (.inl rfl))]
  congr 1;funext p;congr 1;funext u;rw [apartV_congr fun b hb=>h (.t b) (.inr (.inr ⟨b,hb,rfl⟩))]
 | mn xs=>simp only [stepOp];rw [rdL_congr (l:=xs) h]
 | mx xs=>simp only [stepOp];rw [rdL_congr (l:=xs) h]
 | len a x=>cases a <;> simp only [stepOp] ;rw [h x (by simp [IOp.opds])]
 | _=>simp_all [IOp.opds,stepOp]
def IOp.kind:IOp→Nat
 | .load .. | .loadx .. | .loada .. | .eqn .. | .slc .. | .lkp ..=>1
 | .alloc .. | .box .. | .bsl .. | .mksl .. | .nilo .. | .mkm=>2
 | .store .. | .app .. | .appx .. | .appa .. | .appz .. | .cpy .. | .mput .. | .call .. | .callv .. | .inv .. | .eqa .. | .bad=>3
 | _=>0
theorem step0 {op:IOp} {rd:Opd→Option V} {H H':Hp} {id:Nat} {v:V} (hk:op.kind = 0) (h:stepOp op rd H id = some (v,H')):H' = H∧∀ H2 id2,stepOp op rd H2 id2 = some (v,H2):=by
 cases op <;> simp [IOp.kind] at hk <;> simp only [stepOp,Option.map_eq_some_iff,Option.bind_eq_some_iff,Prod.mk.injEq] at h ⊢
 case aidx n len sz x i =>
  obtain ⟨p,hp,z,⟨q,hq,hz⟩,h⟩:=h
  split at h
  ·rename_i hc
   simp only [Option.map_eq_some_iff,Prod.mk.injEq] at h
   obtain ⟨r,hr,rfl,rfl⟩:=h
   exact ⟨rfl,fun H2 _=>⟨p,hp,z,⟨q,hq,hz⟩,by rw [if_pos hc,hr];rfl⟩⟩
  ·cases h
 case sidx x i =>
  obtain ⟨p,hp,z,hz,h⟩:=h
  split at h
  ·rename_i hc
   simp only [Option.map_eq_some_iff,Prod.mk.injEq] at h
   obtain ⟨r,hr,rfl,rfl⟩:=h
   exact ⟨rfl,fun H2 _=>⟨p,hp,z,hz,by rw [if_pos hc,hr];rfl⟩⟩
  ·cases h
 case len a x =>
  cases a with
  | some n=>simp at h ⊢;exact ⟨h.2.symm,h.1⟩
  | none=>simp only [Option.map_eq_some_iff,Prod.mk.injEq] at h ⊢;obtain ⟨a,h1,h2,h3⟩:=h;exact ⟨h3.symm,fun H2 _=>⟨a,h1,h2,trivial⟩⟩
 all_goals
  first
   | (obtain ⟨a,h1,h2,h3⟩:=h;exact ⟨h3.symm,fun H2 _=>⟨a,h1,h2,trivial⟩⟩)
   | (obtain ⟨a,h1,b,h2,h3,h4⟩:=h;exact ⟨h4.symm,fun H2 _=>⟨a,h1,b,h2,h3,trivial⟩⟩)
   | (obtain ⟨a,h1,b,h2,c,h3,h4,h5⟩:=h;exact ⟨h5.symm,fun H2 _=>⟨a,h1,b,h2,c,h3,h4,trivial⟩⟩)
def HLe (H H2:Hp):Prop:=∀ o ob,H o = some ob→∃ k,H2 o = some { ob with fz:=k }
theorem step1 {op:IOp} {rd:Opd→Option V} {H H':Hp} {id:Nat} {v:V} (hk:op.kind = 1) (h:stepOp op rd H id = some (v,H')):H' = H∧∀ H2 id2,HLe H H2→stepOp op rd H2 id2 = some (v,H2):=by
 cases op <;> simp [IOp.kind] at hk
 case load n a =>
  simp only [stepOp,Option.bind_eq_some_iff,Option.map_eq_some_iff,Prod.mk.injEq] at h ⊢
  obtain ⟨c,⟨p,hp,hc⟩,v',hv,rfl,rfl⟩:=h
  refine ⟨rfl,fun H2 _ hl=>⟨c,⟨p,hp,?_⟩,_,hv,rfl,trivial⟩⟩
  cases p <;> simp only [V.cellsAt] at hc ⊢ <;> try exact hc
  rename_i o ver off
  split at hc
  ·rename_i ob hob
   obtain ⟨k,hk⟩:=hl o ob hob
   rw [hk];exact hc
  ·cases hc
 case loadx n a bs =>
  simp only [stepOp,Option.bind_eq_some_iff] at h ⊢
  obtain ⟨p,hp,h⟩:=h
  split at h
  ·rename_i hap
   simp only [Option.bind_eq_some_iff,Option.map_eq_some_iff,Prod.mk.injEq] at h
   obtain ⟨c,hc,v',hv,rfl,rfl⟩:=h
   refine ⟨rfl,fun H2 _ hl=>⟨p,hp,?_⟩⟩
   rw [if_pos hap]
   have:p.cellsAt H2 = some c:=by
    cases p <;> simp only [V.cellsAt] at hc ⊢ <;> try exact hc
    rename_i o ver off
    split at hc
    ·rename_i ob hob
     obtain ⟨k,hk⟩:=hl o ob hob
     rw [hk];exact hc
    ·cases hc
   rw [this,Option.bind_some,hv];rfl
  ·cases h
 case loada n a al =>
  simp only [stepOp,Option.bind_eq_some_iff] at h ⊢
  obtain ⟨p,hp,q,hq,h⟩:=h
  split at h
  ·rename_i hap
   simp only [Option.bind_eq_some_iff,Option.map_eq_some_iff,Prod.mk.injEq] at h
   obtain ⟨c,hc,v',hv,rfl,rfl⟩:=h
   refine ⟨rfl,fun H2 _ hl=>⟨p,hp,q,hq,?_⟩⟩
   rw [if_pos hap]
   have:p.cellsAt H2 = some c:=by
    cases p <;> simp only [V.cellsAt] at hc ⊢ <;> try exact hc
    rename_i o ver off
    split at hc
    ·rename_i ob hob
     obtain ⟨k,hk⟩:=hl o ob hob
     rw [hk];exact hc
    ·cases hc
   rw [this,Option.bind_some,hv];rfl
  ·cases h
 case lkp kd z ok m k =>
  simp only [stepOp,Option.bind_eq_some_iff,Option.map_eq_some_iff,Prod.mk.injEq] at h ⊢
  obtain ⟨p,hp,q,hq,r,hr,rfl,rfl⟩:=h
  refine ⟨rfl,fun H2 _ hl=>⟨p,hp,q,hq,r,?_,rfl,trivial⟩⟩
  have:mapOf H2 p = mapOf H p∨mapOf H p = none:=by
   cases p
   case mp o =>
    simp only [mapOf]
    cases ho:H o with
    | none=>exact .inr rfl
    | some ob=>obtain ⟨k,hk⟩:=hl o _ ho;rw [hk];exact .inl rfl
   all_goals exact .inl rfl
  rcases this with h1 | h1
  ·unfold lkpV at hr ⊢;rw [h1];exact hr
  ·unfold lkpV at hr;rw [h1] at hr;cases hr
 case eqn kd neg x y =>
  simp only [stepOp,Option.bind_eq_some_iff] at h ⊢
  obtain ⟨a,ha,b,hb,h⟩:=h
  split at h
  ·rename_i hn
   simp only [Option.map_eq_some_iff,Prod.mk.injEq] at h
   obtain ⟨r,hr,rfl,rfl⟩:=h
   refine ⟨rfl,fun H2 _ hl=>⟨a,ha,b,hb,?_⟩⟩
   rw [if_pos hn]
   have:a.isNil H2 kd = some r:=by
    cases a
    case ref o ver off len =>
     simp only [V.isNil] at hr ⊢
     split at hr
     ·rename_i hkd
      rw [if_pos hkd]
      split at hr
      ·rename_i ob hob
       obtain ⟨k,hk⟩:=hl _ ob hob
       rw [hk];exact hr
      ·cases hr
     ·cases hr
    case sl cs n=>cases cs <;> exact hr
    all_goals exact hr
   rw [this];rfl
  ·cases h
 case slc arr sz x lo hi mx =>
  simp only [stepOp,Option.bind_eq_some_iff,Option.map_eq_some_iff,Prod.mk.injEq] at h ⊢
  obtain ⟨a,ha,b,hb,c,hc,d,hd,r,hr,rfl,rfl⟩:=h
  refine ⟨rfl,fun H2 _ hl=>⟨a,ha,b,hb,c,hc,d,hd,r,?_,rfl,trivial⟩⟩
  unfold slV at hr ⊢
  split at hr <;> try exact hr
  ·split at hr
   ·rename_i ob hob
    obtain ⟨k,hk⟩:=hl _ ob hob
    rw [hk];exact hr
   ·cases hr
  ·split at hr
   ·rename_i ob hob
    obtain ⟨k,hk⟩:=hl _ ob hob
    rw [hk];exact hr
   ·cases hr
theorem step2 {op:IOp} {rd:Opd→Option V} {H H':Hp} {id:Nat} {v:V} (hk:op.kind = 2) (h:stepOp op rd H id = some (v,H')):∃ ob,H' = H.put id ob∧∀ H2,stepOp op rd H2 id = some (v,H2.put id ob):=by
 cases op <;> simp [IOp.kind] at hk
 case alloc z sz=>simp [stepOp] at h ⊢;exact ⟨_,h.2.symm,fun _=>⟨h.1,rfl⟩⟩
 case nilo sz=>simp [stepOp] at h ⊢;exact ⟨_,h.2.symm,fun _=>⟨h.1,rfl⟩⟩
 case mkm=>simp [stepOp] at h ⊢;exact ⟨_,h.2.symm,fun _=>⟨h.1,rfl⟩⟩
 case box sz x =>
  simp only [stepOp,Option.map_eq_some_iff,Prod.mk.injEq] at h ⊢
  obtain ⟨c,hc,rfl,rfl⟩:=h
  exact ⟨_,rfl,fun H2=>⟨c,hc,rfl,rfl⟩⟩
 case bsl sz len z parts =>
  simp only [stepOp,Option.map_eq_some_iff,Prod.mk.injEq] at h ⊢
  obtain ⟨c,hc,rfl,rfl⟩:=h
  exact ⟨_,rfl,fun H2=>⟨c,hc,rfl,rfl⟩⟩
 case mksl sz bytes z len cap =>
  simp only [stepOp,Option.bind_eq_some_iff] at h ⊢
  obtain ⟨a,ha,b,hb,h⟩:=h
  split at h
  ·rename_i hc
   simp only [Option.some.injEq,Prod.mk.injEq] at h
   obtain ⟨rfl,rfl⟩:=h
   exact ⟨_,rfl,fun H2=>⟨a,ha,b,hb,by rw [if_pos hc]⟩⟩
  ·cases h
theorem step_dom {op:IOp} {rd:Opd→Option V} {H H':Hp} {id:Nat} {v:V} (h:stepOp op rd H id = some (v,H')):∀ j,j≠id→H j = none→H' j = none:=by
 intro j hj hn
 have hk:op.kind = 0∨op.kind = 1∨op.kind = 2∨op.kind = 3:=by cases op <;> simp [IOp.kind]
 rcases hk with hk | hk | hk | hk
 ·rw [(step0 hk h).1];exact hn
 ·rw [(step1 hk h).1];exact hn
 ·obtain ⟨ob,rfl,_⟩:=step2 hk h
  simp [Hp.put,hj,hn]
 ·have put:∀ {o ob ob'},H o = some ob→(H.put o ob') j = none:=fun {o ob ob'} ho=>by
   have:j≠o:=fun e=>by rw [e,ho] at hn;cases hn
   simp [Hp.put,this,hn]
  cases op <;> simp [IOp.kind] at hk <;> simp only [stepOp] at h <;> try (cases h;done)
  case store n a x =>
   simp only [Option.bind_eq_some_iff,Option.map_eq_some_iff,Prod.mk.injEq] at h
   obtain ⟨p,hp,u,hu,H2,hs,_,rfl⟩:=h
   unfold storeV at hs
   split at hs
   ·split at hs
    ·rename_i ob hob
     simp only [Option.bind_eq_some_iff] at hs
     obtain ⟨vc,_,hs⟩:=hs
     split at hs
     ·cases hs;exact put hob
     ·cases hs
    ·cases hs
   ·cases hs
  case app sz bytes s x =>
   simp only [Option.bind_eq_some_iff] at h
   obtain ⟨p,hp,u,hu,hs⟩:=h
   unfold appV at hs
   simp only [Option.bind_eq_some_iff] at hs
   obtain ⟨⟨es,k⟩,_,hs⟩:=hs
   simp only at hs
   split at hs
   ·split at hs
    ·cases hs;simp [Hp.put,hj,hn]
    ·cases hs
   ·split at hs
    ·rename_i ob hob
     split at hs
     ·cases hs;exact put hob
     ·cases hs
    ·cases hs
   ·cases hs
  case appx al sz bytes s x =>
   simp only [Option.bind_eq_some_iff] at h
   obtain ⟨p,hp,_,_,u,hu,hs⟩:=h
   split at hs
   ·unfold appV at hs
    simp only [Option.bind_eq_some_iff] at hs
    obtain ⟨⟨es,k⟩,_,hs⟩:=hs
    simp only at hs
    split at hs
    ·split at hs
     ·cases hs;simp [Hp.put,hj,hn]
     ·cases hs
    ·split at hs
     ·rename_i ob hob
      split at hs
      ·cases hs;exact put hob
      ·cases hs
     ·cases hs
    ·cases hs
   ·cases hs
  case appa bs sz bytes s x =>
   simp only [Option.bind_eq_some_iff] at h
   obtain ⟨p,hp,u,hu,hs⟩:=h
   split at hs
   ·unfold appV at hs
    simp only [Option.bind_eq_some_iff] at hs
    obtain ⟨⟨es,k⟩,_,hs⟩:=hs
    simp only at hs
    split at hs
    ·split at hs
     ·cases hs;simp [Hp.put,hj,hn]
     ·cases hs
    ·split at hs
     ·rename_i ob hob
      split at hs
      ·cases hs;exact put hob
      ·cases hs
     ·cases hs
    ·cases hs
   ·cases hs
  case appz sz bytes z s n =>
   simp only [Option.bind_eq_some_iff] at h
   obtain ⟨p,hp,u,hu,hs⟩:=h
   unfold appzV at hs
   split at hs
   ·split at hs
    ·split at hs
     ·cases hs;simp [Hp.put,hj,hn]
     ·cases hs
    ·split at hs
     ·rename_i ob hob
      split at hs
      ·cases hs;exact put hob
      ·cases hs
     ·cases hs
    ·cases hs
   ·cases hs
  case mput kd m k x =>
   simp only [Option.bind_eq_some_iff,Option.map_eq_some_iff,Prod.mk.injEq] at h
   obtain ⟨p,hp,q,hq,u,hu,H2,hs,_,rfl⟩:=h
   unfold mputV at hs
   split at hs
   ·split at hs
    ·rename_i ob hob
     split at hs
     ·simp only [Option.map_eq_some_iff] at hs
      obtain ⟨r,_,rfl⟩:=hs
      exact put hob
     ·cases hs
    ·cases hs
   ·cases hs
  case cpy sz d s =>
   simp only [Option.bind_eq_some_iff] at h
   obtain ⟨p,hp,u,hu,hs⟩:=h
   unfold cpyV at hs
   simp only [Option.bind_eq_some_iff] at hs
   obtain ⟨⟨es,k⟩,_,hs⟩:=hs
   simp only at hs
   split at hs
   ·cases hs;exact hn
   ·split at hs
    ·rename_i ob hob
     split at hs
     ·cases hs;exact put hob
     ·cases hs
    ·cases hs
   ·cases hs
end Go.Dp
