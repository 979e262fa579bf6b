/- Regions whose order is drawn. -/
import Derived.Test.YtgbjppfikncpcaaGreatDpSwap
namespace Go.Dp
open Go.RowKit
variable {Y:Ys}
set_option linter.unusedSimpArgs false
set_option linter.unusedVariables false
theorem Hp.put_comm {H:Hp} {i j:Nat} {a b:Ob} (h:i≠j):(H.put i a).put j b = (H.put j b).put i a:=by
 funext k;simp only [Hp.put];split <;> split <;> simp_all
theorem HEx.none {H H':Hp} (h:HEx H H') {j:Nat} (hj:H j = none):H' j = none:=by
 cases e:H' j with
 | none=>rfl
 | some ob=>obtain ⟨k,_,e'⟩:=h.2 j ob e;rw [hj] at e';cases e'
theorem mapS_hex {f:V→Hp→Option (V × Hp)} (hf:∀ v H d H',f v H = some (d,H')→HEx H H'):∀ {l:List V} {H:Hp} {ds:List V} {H':Hp},mapS f l H = some (ds,H')→HEx H H'
 | [],H,ds,H',h=>by simp [mapS] at h;rw [h.2];exact HEx.refl _
 | v::l,H,ds,H',h=>by
  simp only [mapS,Option.bind_eq_some_iff,Option.map_eq_some_iff] at h
  obtain ⟨⟨d,H1⟩,h1,⟨ds',H2⟩,h2,e⟩:=h
  cases e
  exact (hf _ _ _ _ h1).trans (mapS_hex hf h2)
theorem frz_hex:∀ (n:Nat) (v:V) (H:Hp) (d:V) (H':Hp),frz n v H = some (d,H')→HEx H H'
 | 0,v,H,d,H',h=>by simp only [frz] at h;split at h <;> simp at h;rw [h.2];exact HEx.refl _
 | n+1,v,H,d,H',h=>by
  have ih:=fun {l:List V} {H:Hp} {ds:List V} {H':Hp}=>mapS_hex (f:=frz n) (frz_hex n) (l:=l) (H:=H) (ds:=ds) (H':=H')
  simp only [frz] at h
  split at h
  ·split at h
   ·split at h
    ·simp only [Option.map_eq_some_iff,Prod.mk.injEq] at h
     obtain ⟨r,hr,_,rfl⟩:=h
     exact (ih hr).trans (HEx.mark _ _ _)
    ·cases h
   ·cases h
  ·split at h
   ·split at h
    ·simp only [Option.map_eq_some_iff,Prod.mk.injEq] at h
     obtain ⟨r,hr,_,rfl⟩:=h
     exact (ih hr).trans (HEx.mark _ _ _)
    ·cases h
   ·cases h
  ·simp only [Option.map_eq_some_iff,Option.bind_eq_some_iff,Prod.mk.injEq] at h
   obtain ⟨r,hr,q,hq,_,rfl⟩:=h
   exact (ih hr).trans (ih hq)
  ·simp only [Option.map_eq_some_iff,Prod.mk.injEq] at h
   obtain ⟨r,hr,_,rfl⟩:=h
   exact frz_hex n _ _ _ _ hr
  ·simp only [Option.map_eq_some_iff,Prod.mk.injEq] at h
   obtain ⟨r,hr,_,rfl⟩:=h
   exact ih hr
  ·simp only [Option.map_eq_some_iff,Prod.mk.injEq] at h
   obtain ⟨r,hr,_,rfl⟩:=h
   exact ih hr
  ·split at h
   ·simp at h;rw [h.2];exact HEx.refl _
   ·cases h
theorem mapS_frame {f:V→Hp→Option (V × Hp)} {j:Nat} {ob:Ob} (hx:∀ v H d H',f v H = some (d,H')→HEx H H') (hf:∀ v H d H',f v H = some (d,H')→H j = none→f v (H.put j ob) = some (d,H'.put j ob)) :
  ∀ {l:List V} {H:Hp} {ds:List V} {H':Hp},mapS f l H = some (ds,H')→H j = none→mapS f l (H.put j ob) = some (ds,H'.put j ob)
 | [],H,ds,H',h,hj=>by simp [mapS] at h ⊢;exact ⟨h.1,by rw [h.2]⟩
 | v::l,H,ds,H',h,hj=>by
  simp only [mapS,Option.bind_eq_some_iff,Option.map_eq_some_iff] at h ⊢
  obtain ⟨⟨d,H1⟩,h1,⟨ds',H2⟩,h2,e⟩:=h
  cases e
  exact ⟨_,hf _ _ _ _ h1 hj,_,mapS_frame hx hf h2 ((hx _ _ _ _ h1).none hj),rfl⟩
theorem Hp.mark_put {H:Hp} {o k j:Nat} {ob:Ob} (h:o≠j):(H.put j ob).mark o k = (H.mark o k).put j ob:=by
 have e:(H.put j ob) o = H o:=by simp [Hp.put,h]
 unfold Hp.mark
 rw [e]
 split
 ·exact (Hp.put_comm h).symm
 ·rfl
theorem frz_frame {j:Nat} {ob:Ob}:∀ (n:Nat) (v:V) (H:Hp) (d:V) (H':Hp),frz n v H = some (d,H')→H j = none→frz n v (H.put j ob) = some (d,H'.put j ob)
 | 0,v,H,d,H',h,hj=>by
  simp only [frz] at h ⊢
  split at h
  ·rename_i hc;rw [if_pos hc];simp at h ⊢;exact ⟨h.1,by rw [h.2]⟩
  ·cases h
 | n+1,v,H,d,H',h,hj=>by
  have ih:=fun {l:List V} {H:Hp} {ds:List V} {H':Hp}=>mapS_frame (f:=frz n) (j:=j) (ob:=ob) (frz_hex n) (frz_frame n) (l:=l) (H:=H) (ds:=ds) (H':=H')
  simp only [frz] at h ⊢
  split at h
  ·rename_i o ver off len
   split at h
   ·rename_i ob' hob
    have ho:o≠j:=fun e=>by rw [e,hj] at hob;cases hob
    have e:(H.put j ob) o = some ob':=by simp [Hp.put,ho,hob]
    simp only [e]
    split at h
    ·rename_i hc
     rw [if_pos hc]
     simp only [Option.map_eq_some_iff,Prod.mk.injEq] at h ⊢
     obtain ⟨r,hr,h1,rfl⟩:=h
     exact ⟨_,ih hr hj,h1,Hp.mark_put ho⟩
    ·cases h
   ·cases h
  ·rename_i o ver off
   split at h
   ·rename_i ob' hob
    have ho:o≠j:=fun e=>by rw [e,hj] at hob;cases hob
    have e:(H.put j ob) o = some ob':=by simp [Hp.put,ho,hob]
    simp only [e]
    split at h
    ·rename_i hc
     rw [if_pos hc]
     simp only [Option.map_eq_some_iff,Prod.mk.injEq] at h ⊢
     obtain ⟨r,hr,h1,rfl⟩:=h
     exact ⟨_,ih hr hj,h1,Hp.mark_put ho⟩
    ·cases h
   ·cases h
  ·simp only [Option.map_eq_some_iff,Option.bind_eq_some_iff,Prod.mk.injEq] at h ⊢
   obtain ⟨r,hr,q,hq,h1,rfl⟩:=h
   exact ⟨_,ih hr hj,_,ih hq ((mapS_hex (frz_hex n) hr).none hj),h1,rfl⟩
  ·simp only [Option.map_eq_some_iff,Prod.mk.injEq] at h ⊢
   obtain ⟨r,hr,h1,rfl⟩:=h
   exact ⟨_,frz_frame n _ _ _ _ hr hj,h1,rfl⟩
  ·simp only [Option.map_eq_some_iff,Prod.mk.injEq] at h ⊢
   obtain ⟨r,hr,h1,rfl⟩:=h
   exact ⟨_,ih hr hj,h1,rfl⟩
  ·simp only [Option.map_eq_some_iff,Prod.mk.injEq] at h ⊢
   obtain ⟨r,hr,h1,rfl⟩:=h
   exact ⟨_,ih hr hj,h1,rfl⟩
  ·split at h
   ·rename_i hc;rw [if_pos hc];simp at h ⊢;exact ⟨h.1,by rw [h.2]⟩
   ·cases h
theorem opnL_frame {f:OpnF} {j:Nat} {ob:Ob} (hle:∀ v id H d H' id',f v id H = some (d,H',id')→id≤id') (hf:∀ v id H d H' id',f v id H = some (d,H',id')→(j < id∨id'≤j)→f v id (H.put j ob) = some (d,H'.put j ob,id')∧H' j = H j) :
  ∀ {l:List V} {id:Nat} {H:Hp} {ds:List V} {H':Hp} {id':Nat},opnL f l id H = some (ds,H',id')→(j < id∨id'≤j)→opnL f l id (H.put j ob) = some (ds,H'.put j ob,id')∧H' j = H j
 | [],id,H,ds,H',id',h,hj=>by simp [opnL] at h ⊢;obtain ⟨rfl,rfl,rfl⟩:=h;simp
 | v::l,id,H,ds,H',id',h,hj=>by
  simp only [opnL,Option.bind_eq_some_iff,Option.map_eq_some_iff] at h ⊢
  obtain ⟨⟨d,H1,id1⟩,h1,⟨ds',H2,id2⟩,h2,e⟩:=h
  cases e
  dsimp only at h2
  have l1:=hle _ _ _ _ _ _ h1
  have l2:=opnL_le hle h2
  obtain ⟨a1,a2⟩:=hf _ _ _ _ _ _ h1 (by omega)
  obtain ⟨b1,b2⟩:=opnL_frame hle hf h2 (by omega)
  exact ⟨⟨_,a1,_,b1,rfl⟩,b2.trans a2⟩
theorem opn0_frame {j:Nat} {ob:Ob} {v:V} {id:Nat} {H:Hp} {d:V} {H':Hp} {id':Nat} (h:opn0 v id H = some (d,H',id')) (hj:j < id∨id'≤j):opn0 v id (H.put j ob) = some (d,H'.put j ob,id')∧H' j = H j:=by
 unfold opn0 at h ⊢
 split at h <;> simp at h ⊢
 all_goals obtain ⟨rfl,rfl,rfl⟩:=h
 ·have : j ≠ id := by omega
  simp [Hp.put,this,Hp.put_comm this]
 ·simp
theorem opn_frame {j:Nat} {ob:Ob}:∀ (n:Nat) (v:V) (id:Nat) (H:Hp) (d:V) (H':Hp) (id':Nat),opn n v id H = some (d,H',id')→(j < id∨id'≤j)→opn n v id (H.put j ob) = some (d,H'.put j ob,id')∧H' j = H j
 | 0,v,id,H,d,H',id',h,hj=>opn0_frame h hj
 | n+1,v,id,H,d,H',id',h,hj=>by
  simp only [opn] at h ⊢
  split at h
  ·simp only [Option.map_eq_some_iff] at h ⊢
   obtain ⟨⟨l',H1,i1⟩,h1,e⟩:=h
   cases e
   obtain ⟨a,b⟩:=opnL_frame (ob:=ob) (fun _ _ _ _ _ _=>opn_le n) (opn_frame n) h1 hj
   exact ⟨⟨_,a,rfl⟩,b⟩
  ·simp only [Option.map_eq_some_iff] at h ⊢
   obtain ⟨⟨l',H1,i1⟩,h1,e⟩:=h
   cases e
   obtain ⟨a,b⟩:=opnL_frame (ob:=ob) (fun _ _ _ _ _ _=>opn_le n) (opn_frame n) h1 hj
   exact ⟨⟨_,a,rfl⟩,b⟩
  ·exact opn0_frame h hj
theorem CallW.frame {P:Program} {fl:Nat} {f:FuncId} {vs:List V} {H:Hp} {id top:Nat} {K K':V→Hp→Nat→Prop} {j:Nat} {ob:Ob} (hfl:fl≤1) (h:CallW P Y fl f vs H id top K) (hj:H j = none) (hid:¬ (id≤j∧j < id+8))
  (hk:∀ v H' t,K v H' t→K' v (H'.put j ob) t):CallW P Y fl f vs (H.put j ob) id top K':=by
 rcases (show fl = 0∨fl = 1 by omega) with rfl | rfl <;> simp only [CallW] at h ⊢
 ·obtain ⟨ds,H1,R,a,b,n,c⟩:=h
  exact ⟨ds,_,R,mapS_frame (frz_hex 12) (frz_frame 12) a hj,b,n,fun r hr=>let ⟨d,e,k⟩:=c r hr;⟨d,e,hk _ _ _ k⟩⟩
 ·obtain ⟨ds,H1,R,a,b,n,c⟩:=h
  refine ⟨ds,_,R,mapS_frame (frz_hex 12) (frz_frame 12) a hj,b,n,fun r hr=>?_⟩
  obtain ⟨r',H2,id',e,l,k⟩:=c r hr
  exact ⟨r',_,id',(opn_frame 3 _ _ _ _ _ _ e (by omega)).1,l,hk _ _ _ k⟩
theorem CallW.after {P:Program} {fl:Nat} {f:FuncId} {vs:List V} {H:Hp} {id top:Nat} {K:V→Hp→Nat→Prop} (hfl:fl≤1) (h:CallW P Y fl f vs H id top K) (hid:∀ j,id≤j→j < id+8→H j = none) :
  CallW P Y fl f vs H id top fun v H' t=>K v H' t∧HLe H H'∧t = top∧∀ j,¬ (id≤j∧j < id+8)→H j = none→H' j = none:=by
 rcases (show fl = 0∨fl = 1 by omega) with rfl | rfl <;> simp only [CallW] at h ⊢
 ·obtain ⟨ds,H1,R,a,b,n,c⟩:=h
  have hx:=mapS_hex (frz_hex 12) a
  exact ⟨ds,_,R,a,b,n,fun r hr=>let ⟨d,e,k⟩:=c r hr;⟨d,e,k,fun o ob ho=>let ⟨k,_,e⟩:=hx.1 o ob ho;⟨k,e⟩,trivial,fun j _ hj=>hx.none hj⟩⟩
 ·obtain ⟨ds,H1,R,a,b,n,c⟩:=h
  have hx:=mapS_hex (frz_hex 12) a
  refine ⟨ds,_,R,a,b,n,fun r hr=>?_⟩
  obtain ⟨r',H2,id',e,l,k⟩:=c r hr
  refine ⟨r',_,id',e,l,k,fun o ob ho=>?_,trivial,fun j hj hn=>?_⟩
  ·obtain ⟨k,_,e1⟩:=hx.1 o ob ho
   have hlt:o < id∨id+8≤o:=by
    rcases Nat.lt_or_ge o id with h1 | h1
    ·exact .inl h1
    ·rcases Nat.lt_or_ge o (id+8) with h2 | h2
     ·rw [hid o h1 h2] at ho;cases ho
     ·exact .inr h2
   rw [(opn_frame (ob:=default) 3 _ _ _ _ _ _ e (by omega)).2]
   exact ⟨k,e1⟩
  ·rw [(opn_frame (ob:=default) 3 _ _ _ _ _ _ e (by omega)).2];exact hx.none hn
theorem CallW.dom {P:Program} {fl:Nat} {f:FuncId} {vs:List V} {H:Hp} {id top:Nat} {K:V→Hp→Nat→Prop} (h:CallW P Y fl f vs H id top K) :
  CallW P Y fl f vs H id top fun v H' t=>K v H' t∧top≤t∧∀ j,j < top→¬ (id≤j∧j < id+8)→H j = none→H' j = none:=by
 unfold CallW at h ⊢
 split at h
 ·obtain ⟨ds,H1,R,a,b,n,c⟩:=h
  have hx:=mapS_hex (frz_hex 12) a
  exact ⟨ds,_,R,a,b,n,fun r hr=>let ⟨d,e,k⟩:=c r hr;⟨d,e,k,Nat.le_refl _,fun j _ _ hj=>hx.none hj⟩⟩
 ·obtain ⟨ds,H1,R,a,b,n,c⟩:=h
  have hx:=mapS_hex (frz_hex 12) a
  refine ⟨ds,_,R,a,b,n,fun r hr=>?_⟩
  obtain ⟨r',H2,id',e,l,k⟩:=c r hr
  refine ⟨r',_,id',e,l,k,Nat.le_refl _,fun j _ hj hn=>?_⟩
  rw [(opn_frame (ob:=default) 3 _ _ _ _ _ _ e (by omega)).2];exact hx.none hn
 ·obtain ⟨R,a,n,b⟩:=h
  exact ⟨R,a,n,fun r H' t hr hl hd=>⟨b r H' t hr hl hd,hl,fun j h1 _ h3=>hd j h1 h3⟩⟩
theorem CallW.ex {P:Program} {fl:Nat} {f:FuncId} {vs:List V} {H:Hp} {id top:Nat} {K:V→Hp→Nat→Prop} (h:CallW P Y fl f vs H id top K):∃ v H' t,K v H' t:=by
 unfold CallW at h
 split at h
 ·obtain ⟨ds,H1,R,a,b,⟨r,hr⟩,c⟩:=h;obtain ⟨d,_,k⟩:=c r hr;exact ⟨_,_,_,k⟩
 ·obtain ⟨ds,H1,R,a,b,⟨r,hr⟩,c⟩:=h;obtain ⟨r',H2,id',e,l,k⟩:=c r hr;exact ⟨_,_,_,k⟩
 ·obtain ⟨R,a,⟨r,H',t,hr,hl,hd⟩,b⟩:=h;exact ⟨_,_,_,b r H' t hr hl hd⟩
theorem CallW.mono {P:Program} {fl:Nat} {f:FuncId} {vs:List V} {H:Hp} {id top:Nat} {K K':V→Hp→Nat→Prop} (h:CallW P Y fl f vs H id top K) (hk:∀ v H t,K v H t→K' v H t):CallW P Y fl f vs H id top K':=by
 unfold CallW at *
 split at h
 ·obtain ⟨ds,H1,R,a,b,n,c⟩:=h;exact ⟨ds,H1,R,a,b,n,fun r hr=>let ⟨d,e,k⟩:=c r hr;⟨d,e,hk _ _ _ k⟩⟩
 ·obtain ⟨ds,H1,R,a,b,n,c⟩:=h;exact ⟨ds,H1,R,a,b,n,fun r hr=>let ⟨r',H2,id',e,l,k⟩:=c r hr;⟨r',H2,id',e,l,hk _ _ _ k⟩⟩
 ·obtain ⟨R,a,n,b⟩:=h;exact ⟨R,a,n,fun r H' t hr hl hd=>hk _ _ _ (b r H' t hr hl hd)⟩
theorem CallT.mono {P:Program} {fl:Nat} {g:Tgt} {vs:List V} {H:Hp} {id top:Nat} {K K':V→Hp→Nat→Prop} (h:CallT P Y fl g vs H id top K) (hk:∀ v H t,K v H t→K' v H t):CallT P Y fl g vs H id top K':=by
 cases g with
 | fn f=>exact CallW.mono (show CallW P Y fl f vs H id top K from h) hk
 | yl o=>obtain ⟨h1,y,K0,hy,h2,h3⟩:=h;exact ⟨h1,y,K0,hy,fun v H' t a b c=>hk _ _ _ (h2 v H' t a b c),h3⟩
theorem CallT.frame {P:Program} {fl:Nat} {g:Tgt} {vs:List V} {H:Hp} {id top:Nat} {K K':V→Hp→Nat→Prop} {j:Nat} {ob:Ob} (hfl:fl≤1) (h:CallT P Y fl g vs H id top K) (hj:H j = none) (hid:¬ (id≤j∧j < id+8))
  (hk:∀ v H' t,K v H' t→K' v (H'.put j ob) t):CallT P Y fl g vs (H.put j ob) id top K':=by
 cases g with
 | fn f=>exact CallW.frame hfl (show CallW P Y fl f vs H id top K from h) hj hid hk
 | yl o=>obtain ⟨h1,_⟩:=h;omega
theorem CallT.after {P:Program} {fl:Nat} {g:Tgt} {vs:List V} {H:Hp} {id top:Nat} {K:V→Hp→Nat→Prop} (hfl:fl≤1) (h:CallT P Y fl g vs H id top K) (hid:∀ j,id≤j→j < id+8→H j = none) :
  CallT P Y fl g vs H id top fun v H' t=>K v H' t∧HLe H H'∧t = top∧∀ j,¬ (id≤j∧j < id+8)→H j = none→H' j = none:=by
 cases g with
 | fn f=>exact CallW.after hfl (show CallW P Y fl f vs H id top K from h) hid
 | yl o=>obtain ⟨h1,_⟩:=h;omega
theorem CallT.dom {P:Program} {fl:Nat} {g:Tgt} {vs:List V} {H:Hp} {id top:Nat} {K:V→Hp→Nat→Prop} (h:CallT P Y fl g vs H id top K) :
  CallT P Y fl g vs H id top fun v H' t=>K v H' t∧top≤t∧∀ j,j < top→¬ (id≤j∧j < id+8)→H j = none→H' j = none:=by
 cases g with
 | fn f=>exact CallW.dom (show CallW P Y fl f vs H id top K from h)
 | yl o =>
  obtain ⟨h1,y,K0,hy,h2,h3⟩:=h
  exact ⟨h1,y,K0,hy,fun v H' t a b c=>⟨h2 v H' t a b c,b,fun j hj _ hn=>c j hj hn⟩,h3⟩
theorem CallT.ex {P:Program} {fl:Nat} {g:Tgt} {vs:List V} {H:Hp} {id top:Nat} {K:V→Hp→Nat→Prop} (hY:YEx Y) (h:CallT P Y fl g vs H id top K):∃ v H' t,K v H' t:=by
 cases g with
 | fn f=>exact CallW.ex (show CallW P Y fl f vs H id top K from h)
 | yl o =>
  obtain ⟨h1,y,K0,hy,h2,h3⟩:=h
  obtain ⟨v,H',t,a,b,c⟩:=hY _ _ hy _ _ _ _ h3
  exact ⟨v,H',t,h2 v H' t a b c⟩
def Opd.slots:List Opd→List Nat
 | []=>[]
 | .t n::l=>n::Opd.slots l
 | .c _::l=>Opd.slots l
def Opr.reads (io:Opr):List Nat:=Opd.slots io.op.opds++(match io.g with | some (s,_)=>[s] | none=>[])
def Agr (io:Opr) (E E':Env):Prop:=∀ n∈io.reads,look n E = look n E'
theorem Agr.symm {io:Opr} {E E':Env} (h:Agr io E E'):Agr io E' E:=fun n hn=>(h n hn).symm
theorem mem_slots:∀ {l:List Opd} {n:Nat},Opd.t n∈l→n∈Opd.slots l
 | .t m::l,n,h=>by
  simp only [Opd.slots,List.mem_cons] at h ⊢
  rcases h with h | h
  ·cases h;exact .inl rfl
  ·exact .inr (mem_slots h)
 | .c _::l,n,h=>by
  simp only [Opd.slots,List.mem_cons] at h ⊢
  rcases h with h | h
  ·cases h
  ·exact mem_slots h
theorem Agr.opds {io:Opr} {E E':Env} (h:Agr io E E'):∀ x∈io.op.opds,rdE E x = rdE E' x:=by
 intro x hx
 cases x with
 | c v=>rfl
 | t n=>exact h n (List.mem_append_left _ (mem_slots hx))
theorem Agr.guard {io:Opr} {E E':Env} (h:Agr io E E') {s:Nat} {b:Bool} (hg:io.g = some (s,b)):look s E = look s E' :=
 h s (List.mem_append_right _ (by rw [hg];simp))
def Opr.goes (io:Opr) (E:Env):Option Bool :=
 match io.g with
 | none=>some true
 | some (s,b)=>match look s E with
  | some (.bool c)=>some (decide (c = b))
  | some (.tup _)=>some false
  | _=>none
theorem Agr.goes {io:Opr} {E E':Env} (h:Agr io E E'):io.goes E = io.goes E':=by
 unfold Opr.goes
 split
 ·rfl
 ·rename_i s b hg;rw [h.guard hg]
theorem wpOp1_iff {P:Program} {nx:Nat} {io:Opr} {E:Env} {H:Hp} {top:Nat} {K:Env→Hp→Nat→Prop} :
  wpOp1 P Y nx io E H top K↔(io.goes E = some true∧execIO P Y io E H nx top fun v H' top'=>K (putE io.dst v E) H' top')∨(io.goes E = some false∧K (putE io.dst V.undef E) H top):=by
 unfold wpOp1 Opr.goes
 cases io.g with
 | none=>simp
 | some p =>
  obtain ⟨s,b⟩:=p
  simp only
  cases look s E with
  | none=>simp
  | some v =>
   cases v <;> simp
   case bool c=>by_cases h:c = b <;> simp [h]
inductive CallsTo (P:Program):Opr→Env→Tgt→List V→Prop
 | call {io:Opr} {E:Env} {f:FuncId} {args:List Opd} {vs:List V} (h:io.op = .call f args) (hv:rdL (rdE E) args = some vs):CallsTo P io E (.fn f) vs
 | yl {io:Opr} {E:Env} {g:Opd} {o:Nat} {args:List Opd} {vs:List V} (h:io.op = .callv g args) (hg:rdE E g = some (.yld o)) (hv:rdL (rdE E) args = some vs):CallsTo P io E (.yl o) vs
 | clo {io:Opr} {E:Env} {g:Opd} {f:FuncId} {first caps:List V} {args:List Opd} {vs:List V} (h:io.op = .callv g args) (hg:rdE E g = some (.clo (.func f) first caps)) (hv:rdL (rdE E) args = some vs):CallsTo P io E (.fn f) (first++vs++caps)
 | meth {io:Opr} {E:Env} {g:Opd} {name:String} {t:TypeId} {x:V} {f:FuncId} {first caps:List V} {args:List Opd} {vs:List V} (h:io.op = .callv g args) (hg:rdE E g = some (.clo (.method name) (.ifc t x::first) caps)) (hv:rdL (rdE E) args = some vs)
   (hm:MethP P t name f):CallsTo P io E (.fn f) (x::first++vs)
 | inv {io:Opr} {E:Env} {r:Opd} {name:String} {t:TypeId} {x:V} {f:FuncId} {args:List Opd} {vs:List V} (h:io.op = .inv name r args) (hg:rdE E r = some (.ifc t x)) (hv:rdL (rdE E) args = some vs) (hm:MethP P t name f):CallsTo P io E (.fn f) (x::vs)
theorem CallsTo.congr {P:Program} {io:Opr} {E E':Env} {f:Tgt} {vs:List V} (hA:Agr io E E') (h:CallsTo P io E f vs):CallsTo P io E' f vs:=by
 have ho:=hA.opds
 cases h with
 | call h hv=>rw [h] at ho;exact .call h ((rdL_congr (fun x hx=>ho x hx)).symm.trans hv)
 | yl h hg hv=>rw [h] at ho;exact .yl h (by rw [← ho _ (by simp [IOp.opds])];exact hg) (by rw [← rdL_congr (fun x hx=>ho x (by simp [IOp.opds,hx]))];exact hv)
 | clo h hg hv=>rw [h] at ho;exact .clo h (by rw [← ho _ (by simp [IOp.opds])];exact hg) (by rw [← rdL_congr (fun x hx=>ho x (by simp [IOp.opds,hx]))];exact hv)
 | meth h hg hv hm=>rw [h] at ho;exact .meth h (by rw [← ho _ (by simp [IOp.opds])];exact hg) (by rw [← rdL_congr (fun x hx=>ho x (by simp [IOp.opds,hx]))];exact hv) hm
 | inv h hg hv hm=>rw [h] at ho;exact .inv h (by rw [← ho _ (by simp [IOp.opds])];exact hg) (by rw [← rdL_congr (fun x hx=>ho x (by simp [IOp.opds,hx]))];exact hv) hm
theorem exec_call {P:Program} {io:Opr} {E:Env} {H:Hp} {nx top:Nat} {K:V→Hp→Nat→Prop} (hc:io.op.isCall = true) :
  execIO P Y io E H nx top K↔∃ f vs,CallsTo P io E f vs∧CallT P Y io.fl f vs H (nx+8 * io.i) top K:=by
 constructor
 ·intro h
  unfold execIO at h
  split at h
  ·rename_i f args heq
   split at h
   ·rename_i vs hvs;exact ⟨.fn f,vs,.call heq hvs,h⟩
   ·exact h.elim
  ·rename_i g args heq
   split at h
   ·rename_i f first caps hg
    split at h
    ·rename_i vs hvs;exact ⟨.fn f,_,.clo heq hg hvs,h⟩
    ·exact h.elim
   ·rename_i name t x first _ hg
    split at h
    ·rename_i vs hvs;obtain ⟨f,hm,h⟩:=h;exact ⟨.fn f,_,.meth heq hg hvs hm,h⟩
    ·exact h.elim
   ·rename_i o hg
    split at h
    ·rename_i vs hvs;exact ⟨.yl o,_,.yl heq hg hvs,h⟩
    ·exact h.elim
   ·exact h.elim
  ·rename_i name r args heq
   split at h
   ·rename_i t x hg
    split at h
    ·rename_i vs hvs;obtain ⟨f,hm,h⟩:=h;exact ⟨.fn f,_,.inv heq hg hvs hm,h⟩
    ·exact h.elim
   ·exact h.elim
  ·rename_i he;rw [he] at hc;cases hc
  ·rename_i h1 h2 h3 h4
   cases hh:io.op <;> first | (rw [hh] at hc;cases hc;done) | exact absurd hh (h1 _ _) | exact absurd hh (h2 _ _) | exact absurd hh (h3 _ _ _)
 ·rintro ⟨f,vs,h,hw⟩
  unfold execIO
  cases h with
  | call h hv=>simp only [h,hv];exact hw
  | yl h hg hv=>simp only [h,hg,hv];exact hw
  | clo h hg hv=>simp only [h,hg,hv];exact hw
  | meth h hg hv hm=>simp only [h,hg,hv];exact ⟨_,hm,hw⟩
  | inv h hg hv hm=>simp only [h,hg,hv];exact ⟨_,hm,hw⟩
theorem exec_op {P:Program} {io:Opr} {E:Env} {H:Hp} {nx top:Nat} {K:V→Hp→Nat→Prop} (hc:io.op.nd = false) :
  execIO P Y io E H nx top K↔∃ v H',stepOp io.op (rdE E) H (nx+8 * io.i) = some (v,H')∧K v H' top:=by
 have:execIO P Y io E H nx top K↔(match stepOp io.op (rdE E) H (nx+8 * io.i) with | some r=>K r.1 r.2 top | none=>False):=by
  unfold execIO
  split
  ·rename_i h;rw [h] at hc;cases hc
  ·rename_i h;rw [h] at hc;cases hc
  ·rename_i h;rw [h] at hc;cases hc
  ·rename_i h;rw [h] at hc;cases hc
  ·rfl
 rw [this]
 split
 ·rename_i r hr
  obtain ⟨v,H'⟩:=r
  constructor
  ·intro hk;exact ⟨v,H',hr,hk⟩
  ·rintro ⟨v',H'',e,hk⟩;rw [hr] at e;cases e;exact hk
 ·rename_i hr
  constructor
  ·intro h;exact h.elim
  ·rintro ⟨v',H'',e,hk⟩;rw [hr] at e;cases e
theorem exec_eqa {P:Program} {io:Opr} {E:Env} {H:Hp} {nx top:Nat} {K:V→Hp→Nat→Prop} {neg:Bool} {x y:Opd} (hc:io.op = .eqa neg x y) :
  execIO P Y io E H nx top K↔∃ v,rdE E x = some v∧rdE E y = some .nils∧((∃ r,v.isNil H 1 = some r∧K (.bool (r != neg)) H top)∨(v.isNil H 1 = none∧v.slike = true∧(v.nil0→K (.bool (true != neg)) H top)∧K (.bool (false != neg)) H top)):=by
 unfold execIO
 rw [hc]
 simp only
 constructor
 ·intro h
  split at h
  ·rename_i v hv hy
   refine ⟨v,hv,hy,?_⟩
   split at h
   ·rename_i r hr;exact .inl ⟨r,hr,h⟩
   ·rename_i hr;exact .inr ⟨hr,h⟩
  ·exact h.elim
 ·rintro ⟨v,hv,hy,h⟩
  simp only [hv,hy]
  rcases h with ⟨r,hr,h⟩ | ⟨hr,h⟩
  ·simp only [hr];exact h
  ·simp only [hr];exact h
theorem nd_cases {op:IOp} (h:op.nd = true):op.isCall = true∨∃ neg x y,op = .eqa neg x y:=by
 cases op <;> first | (cases h;done) | exact .inl rfl | exact .inr ⟨_,_,_,rfl⟩
theorem exec_congr {P:Program} {io:Opr} {E E':Env} {H:Hp} {nx top:Nat} {K:V→Hp→Nat→Prop} (hA:Agr io E E') (h:execIO P Y io E H nx top K):execIO P Y io E' H nx top K:=by
 cases hc:io.op.nd with
 | true =>
  rcases nd_cases hc with hc | ⟨neg,x,y,hc⟩
  ·rw [exec_call hc] at h ⊢;obtain ⟨f,vs,a,b⟩:=h;exact ⟨f,vs,a.congr hA,b⟩
  ·have ho:=hA.opds
   rw [hc] at ho
   rw [exec_eqa hc] at h ⊢
   obtain ⟨v,hv,hy,h⟩:=h
   exact ⟨v,by rw [← ho x (by simp [IOp.opds])];exact hv,by rw [← ho y (by simp [IOp.opds])];exact hy,h⟩
 | false=>rw [exec_op hc] at h ⊢;obtain ⟨v,H',a,b⟩:=h;exact ⟨v,H',by rw [← stepOp_congr hA.opds];exact a,b⟩
theorem wpOp1_congr {P:Program} {nx:Nat} {io:Opr} {E E':Env} {H:Hp} {top:Nat} {K K':Env→Hp→Nat→Prop} (hA:Agr io E E') (hk:∀ v H' t,K (putE io.dst v E) H' t→K' (putE io.dst v E') H' t) (h:wpOp1 P Y nx io E H top K):wpOp1 P Y nx io E' H top K':=by
 rw [wpOp1_iff] at h ⊢
 rcases h with ⟨h1,h2⟩ | ⟨h1,h2⟩
 ·exact .inl ⟨by rw [← hA.goes];exact h1,execIO_mono (fun _ _ _=>hk _ _ _) (exec_congr hA h2)⟩
 ·exact .inr ⟨by rw [← hA.goes];exact h1,hk _ _ _ h2⟩
def Opr.act (io:Opr) (E:Env) (H:Hp) (nx:Nat):Option (V × Hp) :=
 match io.goes E with
 | some true=>stepOp io.op (rdE E) H (nx+8 * io.i)
 | some false=>some (V.undef,H)
 | none=>none
theorem wpOp1_act {P:Program} {nx:Nat} {io:Opr} {E:Env} {H:Hp} {top:Nat} {K:Env→Hp→Nat→Prop} (hc:io.op.nd = false) :
  wpOp1 P Y nx io E H top K↔∃ v H',io.act E H nx = some (v,H')∧K (putE io.dst v E) H' top:=by
 rw [wpOp1_iff,exec_op hc]
 unfold Opr.act
 cases e:io.goes E with
 | none=>simp
 | some b =>
  cases b
  ·simp only [Option.some.injEq,Bool.false_eq_true,false_and,true_and,false_or,Prod.mk.injEq]
   constructor
   ·intro hk;exact ⟨_,_,⟨rfl,rfl⟩,hk⟩
   ·rintro ⟨v',H'',⟨rfl,rfl⟩,hk⟩;exact hk
  ·simp
theorem act_congr {io:Opr} {E E':Env} {H:Hp} {nx:Nat} (hA:Agr io E E'):io.act E H nx = io.act E' H nx:=by
 unfold Opr.act;rw [hA.goes,stepOp_congr hA.opds]
theorem act0 {io:Opr} {E:Env} {H H':Hp} {nx:Nat} {v:V} (hk:io.op.kind = 0) (h:io.act E H nx = some (v,H')):H' = H∧∀ H2,io.act E H2 nx = some (v,H2):=by
 unfold Opr.act at h ⊢
 split at h
 ·obtain ⟨a,b⟩:=step0 hk h;exact ⟨a,fun H2=>b _ _⟩
 ·cases h;exact ⟨rfl,fun _=>rfl⟩
 ·cases h
theorem act1 {io:Opr} {E:Env} {H H':Hp} {nx:Nat} {v:V} (hk:io.op.kind = 1) (h:io.act E H nx = some (v,H')):H' = H∧∀ H2,HLe H H2→io.act E H2 nx = some (v,H2):=by
 unfold Opr.act at h ⊢
 split at h
 ·obtain ⟨a,b⟩:=step1 hk h;exact ⟨a,fun H2=>b _ _⟩
 ·cases h;exact ⟨rfl,fun _ _=>rfl⟩
 ·cases h
theorem act2 {io:Opr} {E:Env} {H H':Hp} {nx:Nat} {v:V} (hk:io.op.kind = 2) (h:io.act E H nx = some (v,H')):(H' = H∧∀ H2,io.act E H2 nx = some (v,H2))∨∃ ob,H' = H.put (nx+8 * io.i) ob∧∀ H2,io.act E H2 nx = some (v,H2.put (nx+8 * io.i) ob):=by
 unfold Opr.act at h ⊢
 split at h
 ·exact .inr (step2 hk h)
 ·cases h;exact .inl ⟨rfl,fun _=>rfl⟩
 ·cases h
theorem kind_call {op:IOp} (h:op.kind≠3):op.nd = false:=by cases op <;> first | rfl | exact absurd rfl h
theorem wpOp1_ex {P:Program} {nx:Nat} {io:Opr} {E:Env} {H:Hp} {top:Nat} {K:Env→Hp→Nat→Prop} (hY:YEx Y) (h:wpOp1 P Y nx io E H top K):∃ v H' t,K (putE io.dst v E) H' t:=by
 cases hc:io.op.nd with
 | false=>obtain ⟨v,H',_,hk⟩:=(wpOp1_act hc).1 h;exact ⟨_,_,_,hk⟩
 | true =>
  rw [wpOp1_iff] at h
  rcases h with ⟨_,h⟩ | ⟨_,h⟩
  ·rcases nd_cases hc with hc | ⟨neg,x,y,hc⟩
   case inr =>
    obtain ⟨v,_,_,⟨r,_,h⟩ | ⟨_,_,_,h⟩⟩:=(exec_eqa hc).1 h
    ·exact ⟨_,_,_,h⟩
    ·exact ⟨_,_,_,h⟩
   obtain ⟨f,vs,_,hw⟩:=(exec_call hc).1 h
   obtain ⟨v,H',t,hk⟩:=hw.ex hY
   exact ⟨_,_,_,hk⟩
  ·exact ⟨_,_,_,h⟩
theorem wpOp1_after {P:Program} {nx:Nat} {io:Opr} {E:Env} {H:Hp} {top:Nat} {K:Env→Hp→Nat→Prop} (hc:io.op.isCall = true) (hfl:io.fl≤1) (hid:∀ j,nx+8 * io.i≤j→j < nx+8 * io.i+8→H j = none)
  (h:wpOp1 P Y nx io E H top K):wpOp1 P Y nx io E H top fun E' H' t=>K E' H' t∧HLe H H':=by
 rw [wpOp1_iff] at h ⊢
 rcases h with ⟨h1,h⟩ | ⟨h1,h⟩
 ·obtain ⟨f,vs,hv,hw⟩:=(exec_call hc).1 h
  exact .inl ⟨h1,(exec_call hc).2 ⟨f,vs,hv,(hw.after hfl hid).mono fun v H t hh=>⟨hh.1,hh.2.1⟩⟩⟩
 ·exact .inr ⟨h1,h,fun o ob ho=>⟨ob.fz,ho⟩⟩
theorem wpOp1_frame {P:Program} {nx:Nat} {io:Opr} {E:Env} {H:Hp} {top:Nat} {K K':Env→Hp→Nat→Prop} {j:Nat} {ob:Ob} (hc:io.op.isCall = true) (hfl:io.fl≤1) (hj:H j = none) (hid:¬ (nx+8 * io.i≤j∧j < nx+8 * io.i+8))
  (hk:∀ v H' t,K (putE io.dst v E) H' t→K' (putE io.dst v E) (H'.put j ob) t) (h:wpOp1 P Y nx io E H top K):wpOp1 P Y nx io E (H.put j ob) top K':=by
 rw [wpOp1_iff] at h ⊢
 rcases h with ⟨h1,h⟩ | ⟨h1,h⟩
 ·obtain ⟨f,vs,hv,hw⟩:=(exec_call hc).1 h
  exact .inl ⟨h1,(exec_call hc).2 ⟨f,vs,hv,hw.frame hfl hj hid fun v H t hh=>hk _ _ _ hh⟩⟩
 ·exact .inr ⟨h1,hk _ _ _ h⟩
theorem wpOp1_dom {P:Program} {nx:Nat} {io:Opr} {E:Env} {H:Hp} {top:Nat} {K:Env→Hp→Nat→Prop} (h:wpOp1 P Y nx io E H top K) :
  wpOp1 P Y nx io E H top fun E' H' t=>K E' H' t∧top≤t∧∀ j,j < top→¬ (nx+8 * io.i≤j∧j < nx+8 * io.i+8)→H j = none→H' j = none:=by
 cases hc:io.op.nd with
 | false =>
  rw [wpOp1_act hc] at h ⊢
  obtain ⟨v,H',ha,hk⟩:=h
  refine ⟨v,H',ha,hk,Nat.le_refl _,fun j _ hj hn=>?_⟩
  unfold Opr.act at ha
  split at ha
  ·exact step_dom ha j (by omega) hn
  ·cases ha;exact hn
  ·cases ha
 | true =>
  rw [wpOp1_iff] at h ⊢
  rcases h with ⟨h1,h⟩ | ⟨h1,h⟩
  ·rcases nd_cases hc with hc | ⟨neg,x,y,hc⟩
   case inr =>
    refine .inl ⟨h1,(exec_eqa hc).2 ?_⟩
    obtain ⟨v,hv,hy,⟨r,hr,h⟩ | ⟨hr,hs,h2,h3⟩⟩:=(exec_eqa hc).1 h
    ·exact ⟨v,hv,hy,.inl ⟨r,hr,h,Nat.le_refl _,fun j _ _ hn=>hn⟩⟩
    ·exact ⟨v,hv,hy,.inr ⟨hr,hs,fun hn=>⟨h2 hn,Nat.le_refl _,fun j _ _ hn=>hn⟩,⟨h3,Nat.le_refl _,fun j _ _ hn=>hn⟩⟩⟩
   obtain ⟨f,vs,hv,hw⟩:=(exec_call hc).1 h
   exact .inl ⟨h1,(exec_call hc).2 ⟨f,vs,hv,hw.dom⟩⟩
  ·exact .inr ⟨h1,h,Nat.le_refl _,fun j _ _ hn=>hn⟩
def apart (x y:Opr):Bool :=
 (match x.dst with | none=>true | some d=>!(y.reads.contains d) && (match y.dst with | none=>true | some d'=>!(d == d'))) && (match y.dst with | none=>true | some d=>!(x.reads.contains d))
theorem look_put {d:Option Nat} {v:V} {E:Env} {n:Nat}:look n (putE d v E) = if d = some n then some v else look n E:=by
 cases d <;> simp [putE,look]
theorem apart_agr {x y:Opr} (h:apart x y = true) (v:V) (E:Env):Agr y (putE x.dst v E) E:=by
 intro n hn
 rw [look_put]
 split
 ·rename_i hd
  simp only [apart,hd,Bool.and_eq_true] at h
  have:=h.1.1
  simp [hn] at this
 ·rfl
theorem apart_agr' {x y:Opr} (h:apart x y = true) (v:V) (E:Env):Agr x (putE y.dst v E) E:=by
 intro n hn
 rw [look_put]
 split
 ·rename_i hd
  simp only [apart,hd,Bool.and_eq_true] at h
  have:=h.2
  simp [hn] at this
 ·rfl
theorem apart_comm {x y:Opr} (h:apart x y = true) (v u:V) (E:Env) (n:Nat):look n (putE y.dst u (putE x.dst v E)) = look n (putE x.dst v (putE y.dst u E)):=by
 simp only [look_put]
 split <;> split <;> try rfl
 rename_i h1 h2
 simp [apart,h1,h2] at h
def IOp.wslot:IOp→Option Nat
 | .appx q _ _ _ _ | .store _ (.t q) _ | .app _ _ (.t q) _ | .appz _ _ _ (.t q) _ | .cpy _ (.t q) _=>some q
 | _=>none
def okLx (x y:IOp):Bool :=
 match x,y.wslot with
 | .loadx _ _ bs,some q=>bs.contains q
 | _,_=>false
def IOp.isW:IOp→Bool
 | .store .. | .app .. | .appx .. | .appz .. | .cpy .. | .mput .. | .appa ..=>true
 | _=>false
def okLa (x y:IOp):Bool :=
 match x,y with
 | .loada _ _ al,.appa bs _ _ _ _=>bs.contains al
 | _,_=>false
theorem wslot_only {op:IOp} {q:Nat} {rd:Opd→Option V} {H H':Hp} {id:Nat} {v:V} (hw:op.wslot = some q) (h:stepOp op rd H id = some (v,H')) (hid:H id = none) {p:V} (hp:rd (.t q) = some p) {o:Nat} {ob:Ob} (ho:H o = some ob) (hne:p.obj≠some o):H' o = H o:=by
 have hoid:o≠id:=fun e=>by rw [e,hid] at ho;cases ho
 have put:∀ {o':Nat} {ob'},p.obj = some o'→(H.put o' ob') o = H o:=fun {o' ob'} he=>by
  have:o≠o':=fun e=>hne (by rw [he,e])
  simp [Hp.put,this]
 unfold IOp.wslot at hw
 split at hw <;> (try (cases hw;done)) <;> cases hw <;> simp only [stepOp,Option.bind_eq_some_iff,Option.map_eq_some_iff,Prod.mk.injEq] at h
 ·obtain ⟨p',hp',q',hq',u,hu,hs⟩:=h
  rw [hp] at hq';cases hq'
  split at hs
  ·rename_i hobj
   unfold appV at hs
   simp only [Option.bind_eq_some_iff] at hs
   obtain ⟨⟨es,k⟩,_,hs⟩:=hs
   simp only at hs
   split at hs
   ·split at hs
    ·cases hs;simp [Hp.put,hoid]
    ·cases hs
   ·split at hs
    ·split at hs
     ·cases hs;exact put (by rw [← hobj];rfl)
     ·cases hs
    ·cases hs
   ·cases hs
  ·cases hs
 ·obtain ⟨p',hp',u,hu,H2,hs,_,rfl⟩:=h
  rw [hp] at hp';cases hp'
  unfold storeV at hs
  split at hs
  ·split at hs
   ·simp only [Option.bind_eq_some_iff] at hs
    obtain ⟨vc,_,hs⟩:=hs
    split at hs
    ·cases hs;exact put rfl
    ·cases hs
   ·cases hs
  ·cases hs
 ·obtain ⟨p',hp',u,hu,hs⟩:=h
  rw [hp] at hp';cases hp'
  unfold appV at hs
  simp only [Option.bind_eq_some_iff] at hs
  obtain ⟨⟨es,k⟩,_,hs⟩:=hs
  simp only at hs
  split at hs
  ·split at hs
   ·cases hs;simp [Hp.put,hoid]
   ·cases hs
  ·split at hs
   ·split at hs
    ·cases hs;exact put rfl
    ·cases hs
   ·cases hs
  ·cases hs
 ·obtain ⟨p',hp',u,hu,hs⟩:=h
  rw [hp] at hp';cases hp'
  unfold appzV at hs
  split at hs
  ·split at hs
   ·split at hs
    ·cases hs;simp [Hp.put,hoid]
    ·cases hs
   ·split at hs
    ·split at hs
     ·cases hs;exact put rfl
     ·cases hs
    ·cases hs
   ·cases hs
  ·cases hs
 ·obtain ⟨p',hp',u,hu,hs⟩:=h
  rw [hp] at hp';cases hp'
  unfold cpyV at hs
  simp only [Option.bind_eq_some_iff] at hs
  obtain ⟨⟨es,k⟩,_,hs⟩:=hs
  simp only at hs
  split at hs
  ·cases hs;rfl
  ·split at hs
   ·split at hs
    ·cases hs;exact put rfl
    ·cases hs
   ·cases hs
  ·cases hs
theorem apartV_mem {rd:Opd→Option V} {p:V}:∀ {bs:List Nat} {q:Nat},apartV rd p bs = true→q∈bs→∃ u,rd (.t q) = some u∧(p.obj = none∨p.obj≠u.obj)
 | b::bs,q,h,hq=>by
  simp only [apartV,Bool.and_eq_true] at h
  obtain ⟨h1,h2⟩:=h
  rcases List.mem_cons.1 hq with rfl | hq
  ·split at h1
   ·rename_i u hu
    simp only [Bool.or_eq_true,Option.isNone_iff_eq_none,bne_iff_ne] at h1
    exact ⟨u,hu,h1⟩
   ·cases h1
  ·exact apartV_mem h2 hq
theorem la_after {x y:IOp} {rd:Opd→Option V} {H H2:Hp} {idx idx' idy:Nat} {v u:V} (hla:okLa x y = true) (hx:stepOp x rd H idx = some (v,H)) (hy:stepOp y rd H idy = some (u,H2)) (hid:H idy = none):stepOp x rd H2 idx' = some (v,H2):=by
 unfold okLa at hla
 split at hla
 ·rename_i n a al bs sz bytes s z
  have hq:al∈bs:=by simpa using hla
  simp only [stepOp,Option.bind_eq_some_iff] at hx hy ⊢
  obtain ⟨p,hp,q,hqv,hx⟩:=hx
  refine ⟨p,hp,q,hqv,?_⟩
  obtain ⟨w,hw,r,hr,hy⟩:=hy
  split at hx
  ·rename_i hobj
   rw [if_pos hobj]
   simp only [Option.bind_eq_some_iff,Option.map_eq_some_iff,Prod.mk.injEq] at hx
   obtain ⟨c,hc,v',hv,rfl,_⟩:=hx
   split at hy
   ·rename_i hap
    obtain ⟨q',hq',hne⟩:=apartV_mem hap hq
    rw [hqv] at hq';cases hq'
    have:p.cellsAt H2 = some c:=by
     cases p <;> simp only [V.cellsAt] at hc ⊢ <;> try exact hc
     rename_i o ver off
     have hno:w.obj≠some o:=fun e=>by
      rcases hne with h | h
      ·rw [h] at e;cases e
      ·exact h (by rw [e,← hobj];rfl)
     cases ho:H o with
     | none=>rw [ho] at hc;cases hc
     | some ob =>
      have hoid:o≠idy:=fun e=>by rw [e,hid] at ho;cases ho
      have hH:H2 o = H o:=by
       unfold appV at hy
       simp only [Option.bind_eq_some_iff] at hy
       obtain ⟨⟨es,k⟩,_,hs⟩:=hy
       simp only at hs
       split at hs
       ·split at hs
        ·cases hs;simp [Hp.put,hoid]
        ·cases hs
       ·rename_i o' _ _ _
        split at hs
        ·split at hs
         ·cases hs
          have:o≠o':=fun e=>hno (by rw [e];rfl)
          simp [Hp.put,this]
         ·cases hs
        ·cases hs
       ·cases hs
      rw [hH,ho];rw [ho] at hc;exact hc
    rw [this,Option.bind_some,hv];rfl
   ·cases hy
  ·cases hx
 ·cases hla
theorem lx_after {x y:IOp} {rd:Opd→Option V} {H H2:Hp} {idx idx' idy:Nat} {v u:V} (hlx:okLx x y = true) (hx:stepOp x rd H idx = some (v,H)) (hy:stepOp y rd H idy = some (u,H2)) (hid:H idy = none):stepOp x rd H2 idx' = some (v,H2):=by
 unfold okLx at hlx
 split at hlx
 ·rename_i n a bs q hw
  have hq:q∈bs:=by simpa using hlx
  simp only [stepOp,Option.bind_eq_some_iff] at hx ⊢
  obtain ⟨p,hp,hx⟩:=hx
  refine ⟨p,hp,?_⟩
  split at hx
  ·rename_i hap
   rw [if_pos hap]
   simp only [Option.bind_eq_some_iff,Option.map_eq_some_iff,Prod.mk.injEq] at hx
   obtain ⟨c,hc,v',hv,rfl,_⟩:=hx
   obtain ⟨w,hw',hne⟩:=apartV_mem hap hq
   have:p.cellsAt H2 = some c:=by
    cases p <;> simp only [V.cellsAt] at hc ⊢ <;> try exact hc
    rename_i o ver off
    have hno:w.obj≠some o:=fun e=>by
     rcases hne with h | h
     ·cases h
     ·exact h (by rw [e];rfl)
    cases ho:H o with
    | none=>rw [ho] at hc;cases hc
    | some ob=>rw [wslot_only hw hy hid hw' ho hno];exact hc
   rw [this,Option.bind_some,hv];rfl
  ·cases hx
 ·cases hlx
theorem elemsV_frame {sz:Nat} {H:Hp} {j:Nat} {ob:Ob} (hj:H j = none) {v:V} {r:List V × Nat} (h:elemsV sz H v = some r):elemsV sz (H.put j ob) v = some r:=by
 cases v <;> simp only [elemsV] at h ⊢ <;> try exact h
 rename_i o ver off len
 have:o≠j:=fun e=>by rw [e,hj] at h;cases h
 simp only [Hp.put,this,if_false];exact h
theorem isW_frame {op:IOp} {rd:Opd→Option V} {H H':Hp} {id j:Nat} {v:V} {ob:Ob} (hw:op.isW = true) (h:stepOp op rd H id = some (v,H')) (hj:H j = none) (hne:j≠id):stepOp op rd (H.put j ob) id = some (v,H'.put j ob):=by
 have hput:∀ {o:Nat} {x:Ob},H o = some x→(H.put j ob) o = some x:=fun {o x} ho=>by
  have:o≠j:=fun e=>by rw [e,hj] at ho;cases ho
  simp [Hp.put,this,ho]
 have hcomm:∀ {o:Nat} {x y:Ob},H o = some x→(H.put j ob).put o y = (H.put o y).put j ob:=fun {o x y} ho=>Hp.put_comm (fun e=>by rw [← e,hj] at ho;cases ho)
 unfold IOp.isW at hw
 split at hw <;> (try (cases hw;done)) <;> simp only [stepOp,Option.bind_eq_some_iff,Option.map_eq_some_iff,Prod.mk.injEq] at h ⊢
 ·obtain ⟨p,hp,u,hu,H2,hs,rfl,rfl⟩:=h
  refine ⟨p,hp,u,hu,_,?_,rfl,rfl⟩
  unfold storeV at hs ⊢
  split at hs
  ·split at hs
   ·rename_i ob2 ho
    simp only [Option.bind_eq_some_iff] at hs
    obtain ⟨vc,hvc,hs⟩:=hs
    simp only [hput ho,hvc,Option.bind_some]
    split at hs
    ·rename_i hc;cases hs;rw [if_pos hc,hcomm ho]
    ·cases hs
   ·cases hs
  ·cases hs
 ·obtain ⟨p,hp,u,hu,hs⟩:=h
  refine ⟨p,hp,u,hu,?_⟩
  unfold appV at hs ⊢
  simp only [Option.bind_eq_some_iff] at hs ⊢
  obtain ⟨⟨es,k⟩,he,hs⟩:=hs
  refine ⟨(es,k),elemsV_frame hj he,?_⟩
  simp only at hs ⊢
  split at hs
  ·split at hs
   ·rename_i hc;cases hs;simp only [if_pos hc,Hp.put_comm (Ne.symm hne)]
   ·cases hs
  ·split at hs
   ·rename_i ob2 ho
    simp only [hput ho]
    split at hs
    ·rename_i hc;cases hs;simp only [if_pos hc,hcomm ho]
    ·cases hs
   ·cases hs
  ·cases hs
 ·obtain ⟨p,hp,al,hal,u,hu,hs⟩:=h
  refine ⟨p,hp,al,hal,u,hu,?_⟩
  split at hs
  ·rename_i hobj
   rw [if_pos hobj]
   unfold appV at hs ⊢
   simp only [Option.bind_eq_some_iff] at hs ⊢
   obtain ⟨⟨es,k⟩,he,hs⟩:=hs
   refine ⟨(es,k),elemsV_frame hj he,?_⟩
   simp only at hs ⊢
   split at hs
   ·split at hs
    ·rename_i hc;cases hs;simp only [if_pos hc,Hp.put_comm (Ne.symm hne)]
    ·cases hs
   ·split at hs
    ·rename_i ob2 ho
     simp only [hput ho]
     split at hs
     ·rename_i hc;cases hs;simp only [if_pos hc,hcomm ho]
     ·cases hs
    ·cases hs
   ·cases hs
  ·cases hs
 ·obtain ⟨p,hp,u,hu,hs⟩:=h
  refine ⟨p,hp,u,hu,?_⟩
  unfold appzV at hs ⊢
  split at hs
  ·rename_i h0
   rw [if_pos h0]
   split at hs
   ·split at hs
    ·rename_i hc;cases hs;simp only [if_pos hc,Hp.put_comm (Ne.symm hne)]
    ·cases hs
   ·split at hs
    ·rename_i ob2 ho
     simp only [hput ho]
     split at hs
     ·rename_i hc;cases hs;simp only [if_pos hc,hcomm ho]
     ·cases hs
    ·cases hs
   ·cases hs
  ·cases hs
 ·obtain ⟨p,hp,u,hu,hs⟩:=h
  refine ⟨p,hp,u,hu,?_⟩
  unfold cpyV at hs ⊢
  simp only [Option.bind_eq_some_iff] at hs ⊢
  obtain ⟨⟨es,k⟩,he,hs⟩:=hs
  refine ⟨(es,k),elemsV_frame hj he,?_⟩
  simp only at hs ⊢
  split at hs
  ·cases hs;rfl
  ·split at hs
   ·rename_i ob2 ho
    simp only [hput ho]
    split at hs
    ·rename_i hc;cases hs;simp only [if_pos hc,hcomm ho]
    ·cases hs
   ·cases hs
  ·cases hs
 ·obtain ⟨p,hp,q,hq,u,hu,H2,hs,rfl,rfl⟩:=h
  refine ⟨p,hp,q,hq,u,hu,_,?_,rfl,rfl⟩
  unfold mputV at hs ⊢
  split at hs
  ·split at hs
   ·rename_i ob2 ho
    simp only [hput ho]
    split at hs
    ·rename_i hc
     simp only [Option.map_eq_some_iff] at hs
     obtain ⟨r,hr,rfl⟩:=hs
     rw [if_pos hc,hr,Option.map_some,hcomm ho]
    ·cases hs
   ·cases hs
  ·cases hs
 ·obtain ⟨p,hp,u,hu,hs⟩:=h
  refine ⟨p,hp,u,hu,?_⟩
  split at hs
  ·rename_i hobj
   rw [if_pos hobj]
   unfold appV at hs ⊢
   simp only [Option.bind_eq_some_iff] at hs ⊢
   obtain ⟨⟨es,k⟩,he,hs⟩:=hs
   refine ⟨(es,k),elemsV_frame hj he,?_⟩
   simp only at hs ⊢
   split at hs
   ·split at hs
    ·rename_i hc;cases hs;simp only [if_pos hc,Hp.put_comm (Ne.symm hne)]
    ·cases hs
   ·split at hs
    ·rename_i ob2 ho
     simp only [hput ho]
     split at hs
     ·rename_i hc;cases hs;simp only [if_pos hc,hcomm ho]
     ·cases hs
    ·cases hs
   ·cases hs
  ·cases hs
def okSwap (x y:Opr):Bool :=
 apart x y && (x.op.kind == 0 || y.op.kind == 0 || (x.op.kind == 1 && (y.op.kind == 1 || y.op.kind == 2 || (y.op.isCall && decide (y.fl≤1)))) || (x.op.kind == 2 && y.op.kind == 2) || (x.op.isCall && decide (x.fl≤1) && y.op.kind == 2) || okLx x.op y.op || (x.op.isW && y.op.kind == 2) || okLa x.op y.op)
def EqE (E E':Env):Prop:=∀ n,look n E = look n E'
theorem swap {P:Program} (hY:YEx Y) {nx:Nat} {x y:Opr} {E:Env} {H:Hp} {top:Nat} {K:Env→Hp→Nat→Prop} (hs:okSwap x y = true) (hne:x.i≠y.i) (hfx:∀ j,nx+8 * x.i≤j→j < nx+8 * x.i+8→H j = none) (hfy:∀ j,nx+8 * y.i≤j→j < nx+8 * y.i+8→H j = none)
  (hK:∀ E E' H t,EqE E E'→K E H t→K E' H t) (h:wpOp1 P Y nx x E H top fun E1 H1 t1=>wpOp1 P Y nx y E1 H1 t1 K):wpOp1 P Y nx y E H top fun E1 H1 t1=>wpOp1 P Y nx x E1 H1 t1 K:=by
 simp only [okSwap,Bool.and_eq_true,Bool.or_eq_true,beq_iff_eq,decide_eq_true_eq] at hs
 obtain ⟨hap,hs⟩:=hs
 have ay:=apart_agr hap
 have ax:=apart_agr' hap
 have cm:=fun v u E H t=>hK _ _ H t (apart_comm hap v u E)
 rcases hs with (((((((hs | hs) | hs) | hs) | hs) | hs) | hs) | hs)
 ·-- x looks at nothing
  obtain ⟨v,H',ha,hk⟩:=(wpOp1_act (kind_call (by omega))).1 h
  obtain ⟨rfl,hb⟩:=act0 hs ha
  refine wpOp1_congr (ay v E) (fun u H1 t1 hk=>?_) hk
  refine (wpOp1_act (kind_call (by omega))).2 ⟨v,H1,by rw [act_congr (ax u E)];exact hb _,cm _ _ _ _ _ hk⟩
 ·-- y looks at nothing
  obtain ⟨v,H',t,hk⟩:=wpOp1_ex hY h
  obtain ⟨u,H2,ha,_⟩:=(wpOp1_act (kind_call (by omega))).1 hk
  rw [act_congr (ay v E)] at ha
  obtain ⟨rfl,hb⟩:=act0 hs ha
  refine (wpOp1_act (kind_call (by omega))).2 ⟨u,H,hb _,wpOp1_congr (ax u E).symm (fun v H1 t1 hk=>?_) h⟩
  obtain ⟨u',H2,ha',hk⟩:=(wpOp1_act (kind_call (by omega))).1 hk
  rw [act_congr (ay v E),hb] at ha'
  cases ha'
  exact cm _ _ _ _ _ hk
 ·obtain ⟨hx,hs⟩:=hs
  obtain ⟨v,H',ha,hk⟩:=(wpOp1_act (kind_call (by omega))).1 h
  obtain ⟨rfl,hb⟩:=act1 hx ha
  have fin:∀ {u H1 t1},HLe H' H1→K (putE y.dst u (putE x.dst v E)) H1 t1→wpOp1 P Y nx x (putE y.dst u E) H1 t1 K:=fun {u H1 t1} hl hk =>
   (wpOp1_act (kind_call (by omega))).2 ⟨v,H1,by rw [act_congr (ax u E)];exact hb _ hl,cm _ _ _ _ _ hk⟩
  rcases hs with (hs | hs) | hs
  ·obtain ⟨u, H2, ha2, hk2⟩ := (wpOp1_act (kind_call (by omega))).1 hk
   rw [act_congr (ay v E)] at ha2
   obtain ⟨rfl,_⟩:=act1 hs ha2
   exact (wpOp1_act (kind_call (by omega))).2 ⟨u,_,ha2,fin (fun o ob ho=>⟨ob.fz,ho⟩) hk2⟩
  ·obtain ⟨u, H2, ha2, hk2⟩ := (wpOp1_act (kind_call (by omega))).1 hk
   rw [act_congr (ay v E)] at ha2
   refine (wpOp1_act (kind_call (by omega))).2 ⟨u,_,ha2,fin ?_ hk2⟩
   rcases act2 hs ha2 with ⟨rfl,_⟩ | ⟨ob,rfl,_⟩
   ·exact fun o ob ho=>⟨ob.fz,ho⟩
   ·intro o ob' ho
    have:o≠nx+8 * y.i:=fun e=>by rw [e,hfy _ (Nat.le_refl _) (by omega)] at ho;cases ho
    exact ⟨ob'.fz,by simp [Hp.put,this,ho]⟩
  ·exact wpOp1_congr (ay v E) (fun u H1 t1 hh=>fin hh.2 hh.1) (wpOp1_after hs.1 hs.2 hfy hk)
 ·obtain ⟨hx,hy⟩:=hs
  obtain ⟨v,H',ha,hk⟩:=(wpOp1_act (kind_call (by omega))).1 h
  obtain ⟨u,H2,ha2,hk2⟩:=(wpOp1_act (kind_call (by omega))).1 hk
  rw [act_congr (ay v E)] at ha2
  rcases act2 hx ha with ⟨rfl,h1⟩ | ⟨ob,rfl,h1⟩ <;> rcases act2 hy ha2 with ⟨rfl,h2⟩ | ⟨ob',rfl,h2⟩
  ·exact (wpOp1_act (kind_call (by omega))).2 ⟨u,_,h2 _,(wpOp1_act (kind_call (by omega))).2 ⟨v,_,by rw [act_congr (ax u E)];exact h1 _,cm _ _ _ _ _ hk2⟩⟩
  ·exact (wpOp1_act (kind_call (by omega))).2 ⟨u,_,h2 _,(wpOp1_act (kind_call (by omega))).2 ⟨v,_,by rw [act_congr (ax u E)];exact h1 _,cm _ _ _ _ _ hk2⟩⟩
  ·exact (wpOp1_act (kind_call (by omega))).2 ⟨u,_,h2 _,(wpOp1_act (kind_call (by omega))).2 ⟨v,_,by rw [act_congr (ax u E)];exact h1 _,cm _ _ _ _ _ hk2⟩⟩
  ·refine (wpOp1_act (kind_call (by omega))).2 ⟨u, _, h2 _, (wpOp1_act (kind_call (by omega))).2 ⟨v, _, by rw [act_congr (ax u E)]; exact h1 _, cm _ _ _ _ _ ?_⟩⟩
   rw [Hp.put_comm (by omega)];exact hk2
 ·obtain ⟨⟨hc,hfl⟩,hy⟩:=hs
  obtain ⟨v,H',t,hk⟩:=wpOp1_ex hY h
  obtain ⟨u,H2,ha,_⟩:=(wpOp1_act (kind_call (by omega))).1 hk
  rw [act_congr (ay v E)] at ha
  have uq:∀ {v H1 t1},wpOp1 P Y nx y (putE x.dst v E) H1 t1 K→∀ {H3},y.act E H1 nx = some (u,H3)→K (putE x.dst v (putE y.dst u E)) H3 t1:=by
   intro v H1 t1 hk H3 he
   obtain ⟨u',H4,ha',hk⟩:=(wpOp1_act (kind_call (by omega))).1 hk
   rw [act_congr (ay v E),he] at ha'
   cases ha'
   exact cm _ _ _ _ _ hk
  rcases act2 hy ha with ⟨rfl,h2⟩ | ⟨ob,rfl,h2⟩
  ·exact (wpOp1_act (kind_call (by omega))).2 ⟨u,_,h2 _,wpOp1_congr (ax u E).symm (fun v H1 t1 hk=>uq hk (h2 _)) h⟩
  ·refine (wpOp1_act (kind_call (by omega))).2 ⟨u, _, h2 _, ?_⟩
   have hj:=hfy _ (Nat.le_refl _) (by omega)
   have h1:wpOp1 P Y nx x (putE y.dst u E) H top fun E1 H1 t1=>∃ v,E1 = putE x.dst v (putE y.dst u E)∧wpOp1 P Y nx y (putE x.dst v E) H1 t1 K:=wpOp1_congr (ax u E).symm (fun v H1 t1 hk=>⟨v,rfl,hk⟩) h
   refine wpOp1_frame hc hfl hj (by omega) (fun v H1 t1 hk=>?_) h1
   obtain ⟨v',he,hk⟩:=hk
   rw [he]
   exact uq hk (h2 _)
 ·-- a load apart from what is written
  have hkx:x.op.kind = 1:=by
   unfold okLx at hs
   split at hs
   ·rename_i he _;rw [he];rfl
   ·cases hs
  have hndy:y.op.nd = false:=by
   unfold okLx at hs
   split at hs
   ·rename_i hw
    cases hh:y.op <;> first | rfl | (rw [hh] at hw;cases hw)
   ·cases hs
  obtain ⟨v,H',ha,hk⟩:=(wpOp1_act (kind_call (by omega))).1 h
  obtain ⟨rfl,_⟩:=act1 hkx ha
  obtain ⟨u,H2,ha2,hk2⟩:=(wpOp1_act hndy).1 hk
  rw [act_congr (ay v E)] at ha2
  refine (wpOp1_act hndy).2 ⟨u,H2,ha2,(wpOp1_act (kind_call (by omega))).2 ⟨v,H2,?_,cm _ _ _ _ _ hk2⟩⟩
  rw [act_congr (ax u E)]
  unfold Opr.act at ha ha2 ⊢
  split at ha
  ·split at ha2
   ·exact lx_after hs ha ha2 (hfy _ (Nat.le_refl _) (by omega))
   ·cases ha2;exact ha
   ·cases ha2
  ·cases ha;rfl
  ·cases ha
 ·-- a write,and a new object
  obtain ⟨hw,hy⟩:=hs
  have hndx:x.op.nd = false:=by cases hh:x.op <;> rw [hh] at hw <;> first | rfl | cases hw
  obtain ⟨v,H',ha,hk⟩:=(wpOp1_act hndx).1 h
  obtain ⟨u,H2,ha2,hk2⟩:=(wpOp1_act (kind_call (by omega))).1 hk
  rw [act_congr (ay v E)] at ha2
  rcases act2 hy ha2 with ⟨rfl,h2⟩ | ⟨ob,rfl,h2⟩
  ·exact (wpOp1_act (kind_call (by omega))).2 ⟨u,_,h2 _,(wpOp1_act hndx).2 ⟨v,_,by rw [act_congr (ax u E)];exact ha,cm _ _ _ _ _ hk2⟩⟩
  ·refine (wpOp1_act (kind_call (by omega))).2 ⟨u, _, h2 _, (wpOp1_act hndx).2 ⟨v, _, ?_, cm _ _ _ _ _ hk2⟩⟩
   rw [act_congr (ax u E)]
   unfold Opr.act at ha ⊢
   split at ha
   ·exact isW_frame hw ha (hfy _ (Nat.le_refl _) (by omega)) (by omega)
   ·cases ha;rfl
   ·cases ha
 ·-- a load,and an append to another object
  have hkx:x.op.kind = 1:=by
   unfold okLa at hs
   split at hs
   ·rename_i he _;rw [he];rfl
   ·cases hs
  have hndy:y.op.nd = false:=by
   unfold okLa at hs
   split at hs
   ·rename_i _ he;rw [he];rfl
   ·cases hs
  obtain ⟨v,H',ha,hk⟩:=(wpOp1_act (kind_call (by omega))).1 h
  obtain ⟨rfl,_⟩:=act1 hkx ha
  obtain ⟨u,H2,ha2,hk2⟩:=(wpOp1_act hndy).1 hk
  rw [act_congr (ay v E)] at ha2
  refine (wpOp1_act hndy).2 ⟨u,H2,ha2,(wpOp1_act (kind_call (by omega))).2 ⟨v,H2,?_,cm _ _ _ _ _ hk2⟩⟩
  rw [act_congr (ax u E)]
  unfold Opr.act at ha ha2 ⊢
  split at ha
  ·split at ha2
   ·exact la_after hs ha ha2 (hfy _ (Nat.le_refl _) (by omega))
   ·cases ha2;exact ha
   ·cases ha2
  ·cases ha;rfl
  ·cases ha
end Go.Dp
