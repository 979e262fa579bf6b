/- A region whose order is drawn: every order comes to the same. -/
import Derived.Test.YtgbjppfikncpcaaGreatDpDraw
namespace Go.Dp
open Go.RowKit
variable {Y:Ys}
set_option linter.unusedSimpArgs false
set_option linter.unusedVariables false
theorem EqE.put {E E':Env} (h:EqE E E') (d:Option Nat) (v:V):EqE (putE d v E) (putE d v E'):=fun n=>by
 simp only [look_put]
 split
 ·rfl
 ·exact h n
theorem EqE.agr {E E':Env} (h:EqE E E') (io:Opr):Agr io E E':=fun n _=>h n
theorem wpOps_ext {P:Program} {nx:Nat} {K:Env→Hp→Nat→Prop} (hK:∀ E E' H t,EqE E E'→K E H t→K E' H t):∀ {l:List Opr} {E E':Env} {H:Hp} {top:Nat},EqE E E'→wpOps P Y nx l E H top K→wpOps P Y nx l E' H top K
 | [],_,_,_,_,he,h=>hK _ _ _ _ he h
 | io::l,_,_,_,_,he,h=>wpOp1_congr (he.agr io) (fun v _ _ hk=>wpOps_ext hK (he.put io.dst v) hk) h
def Free (nx:Nat) (H:Hp) (top:Nat) (io:Opr):Prop:=nx+8 * io.i+8≤top∧∀ j,nx+8 * io.i≤j→j < nx+8 * io.i+8→H j = none
theorem front {P:Program} (hY:YEx Y) {nx:Nat} {io:Opr} {l2:List Opr} {K:Env→Hp→Nat→Prop} (hK:∀ E E' H t,EqE E E'→K E H t→K E' H t):∀ (l1:List Opr) (E:Env) (H:Hp) (top:Nat),(∀ x∈l1,okSwap x io = true∧x.i≠io.i)→l1.Pairwise (fun x y=>x.i≠y.i) →
  (∀ x∈l1,Free nx H top x)→Free nx H top io→wpOps P Y nx (l1++io::l2) E H top K→wpOp1 P Y nx io E H top fun E1 H1 t1=>wpOps P Y nx (l1++l2) E1 H1 t1 K
 | [],E,H,top,_,_,_,_,h=>h
 | x::l1,E,H,top,hs,hp,hf,hfi,h=>by
  have hx:=hs x (by simp)
  rw [List.pairwise_cons] at hp
  refine swap hY hx.1 hx.2 (hf x (by simp)).2 hfi.2 (fun E E' H t he hk=>wpOps_ext hK he hk) ?_
  refine wpOp1_mono (fun E1 H1 t1 hh=>?_) (wpOp1_dom (show wpOp1 P Y nx x E H top _ from h))
  obtain ⟨h1,ht,hd⟩:=hh
  have keep:∀ z:Opr,x.i≠z.i→Free nx H top z→Free nx H1 t1 z:=fun z hz hfz=>⟨by have:=hfz.1;omega,fun j a b=>hd j (by have:=hfz.1;omega) (by omega) (hfz.2 j a b)⟩
  exact front hY hK l1 E1 H1 t1 (fun z hz=>hs z (by simp [hz])) hp.2 (fun z hz=>keep z (hp.1 z hz) (hf z (by simp [hz]))) (keep io hx.2 hfi) h1
def edgeMask (B:List Nat) (o:Oper):Nat:=o.after.toList.foldr (fun e m=>if Region.binds .any e then ((1 <<< e.on) ||| B.getD e.on 0) ||| m else m) 0
theorem edgeMask_bit {B:List Nat} {o:Oper} {j:Nat} (h:(edgeMask B o).testBit j = true):∃ e∈o.after,Region.binds .any e = true∧(e.on = j∨(B.getD e.on 0).testBit j = true):=by
 have key:∀ l:List Edge,(l.foldr (fun e m=>if Region.binds .any e then ((1 <<< e.on) ||| B.getD e.on 0) ||| m else m) 0).testBit j = true→∃ e∈l,Region.binds .any e = true∧(e.on = j∨(B.getD e.on 0).testBit j = true):=by
  intro l
  induction l with
  | nil=>intro h;simp at h
  | cons e l ih =>
   intro h
   simp only [List.foldr_cons] at h
   split at h
   ·rename_i hb
    simp only [Nat.testBit_or,Bool.or_eq_true] at h
    rcases h with (h | h) | h
    ·refine ⟨e, by simp, hb, .inl ?_⟩
     rw [Nat.one_shiftLeft,Nat.testBit_two_pow] at h
     simpa using h
    ·exact ⟨e,by simp,hb,.inr h⟩
    ·obtain ⟨e',a,b⟩:=ih h;exact ⟨e',by simp [a],b⟩
   ·obtain ⟨e',a,b⟩:=ih h;exact ⟨e',by simp [a],b⟩
 obtain ⟨e,he,hh⟩:=key _ h
 exact ⟨e,by simpa using he,hh⟩
theorem edgeMask_has {o:Oper} {e:Edge} (he:e∈o.after) (hb:Region.binds .any e = true):(edgeMask [] o).testBit e.on = true:=by
 have key:∀ l:List Edge,e∈l→(l.foldr (fun e m=>if Region.binds .any e then ((1 <<< e.on) ||| ([]:List Nat).getD e.on 0) ||| m else m) 0).testBit e.on = true:=by
  intro l
  induction l with
  | nil=>intro h;cases h
  | cons e' l ih =>
   intro h
   simp only [List.foldr_cons]
   rcases List.mem_cons.1 h with rfl | h
   ·rw [if_pos hb];simp [Nat.one_shiftLeft,Nat.testBit_two_pow]
   ·split
    ·rw [Nat.testBit_or,ih h,Bool.or_true]
    ·exact ih h
 exact key _ (by simpa using he)
def ancs:List Oper→List Nat→List Nat
 | [],B=>B
 | o::l,B=>ancs l (B++[edgeMask B o])
def okMasks (B:List Nat):Nat→List Oper→Bool
 | _,[]=>true
 | i,o::l=>B.getD i 0 == edgeMask B o && okMasks B (i+1) l
def okPairs (B:List Nat) (ops:Array Oper):List Opr→Bool
 | []=>true
 | x::l=>(match ops[x.i]? with | some o=>let d:=edgeMask [] o;!(d.testBit x.i) && l.all (fun y=>!(x.i == y.i) && (okSwap x y || (B.getD y.i 0).testBit x.i) && !(d.testBit y.i)) | none=>false) && okPairs B ops l
def okDraw (P:Program) (nt:Nat) (ops:Array Oper) (ios:List Opr):Bool :=
 let B:=ancs ops.toList []
 okMasks B 0 ops.toList && okPairs B ops ios && (List.range ops.size).all (fun i=>ios.any fun io=>io.i == i) &&
 ios.length == ops.size && ops.toList.all (fun o=>o.after.toList.all fun e=>decide (e.on < ops.size)) &&
 ios.all (fun io=>match ops[io.i]? with | some o=>okIO P nt ops o io | none=>false)
theorem okMasks_get {B:List Nat}:∀ {l:List Oper} {i k:Nat} {o:Oper},okMasks B i l = true→l[k]? = some o→B.getD (i+k) 0 = edgeMask B o
 | [],_,_,_,_,h=>by simp at h
 | o'::l,i,k,o,hok,h=>by
  simp only [okMasks,Bool.and_eq_true,beq_iff_eq] at hok
  cases k with
  | zero=>simp at h;subst h;exact hok.1
  | succ k=>simp at h;have:=okMasks_get hok.2 h;rw [← this];congr 1;omega
structure Static (P:Program) (nt:Nat) (ops:Array Oper) (B:List Nat) (l:List Opr):Prop where
 ios:∀ io∈l,∃ o,ops[io.i]? = some o∧okIO P nt ops o io = true
 ne:l.Pairwise fun x y=>x.i≠y.i
 pair:l.Pairwise fun x y=>okSwap x y = true∨(B.getD y.i 0).testBit x.i = true
 edge:l.Pairwise fun x y=>∀ o,ops[x.i]? = some o→(edgeMask [] o).testBit y.i = false
 self:∀ x∈l,∀ o,ops[x.i]? = some o→(edgeMask [] o).testBit x.i = false
theorem Static.sub {P:Program} {nt:Nat} {ops:Array Oper} {B:List Nat} {l l':List Opr} (h:Static P nt ops B l) (hs:l'.Sublist l):Static P nt ops B l' :=
 ⟨fun io hio=>h.ios io (hs.subset hio),h.ne.sublist hs,h.pair.sublist hs,h.edge.sublist hs,fun x hx=>h.self x (hs.subset hx)⟩
theorem okPairs_static {P:Program} {nt:Nat} {ops:Array Oper} {B:List Nat}:∀ {l:List Opr},okPairs B ops l = true→(∀ io∈l,∃ o,ops[io.i]? = some o∧okIO P nt ops o io = true)→Static P nt ops B l
 | [],_,_=>⟨fun _ h=>(by cases h),.nil,.nil,.nil,fun _ h=>(by cases h)⟩
 | x::l,h,hio=>by
  simp only [okPairs,Bool.and_eq_true] at h
  obtain ⟨h1,h2⟩:=h
  have ih:=okPairs_static (P:=P) (nt:=nt) h2 fun io hh=>hio io (by simp [hh])
  split at h1
  ·rename_i o ho
   simp only [Bool.and_eq_true,Bool.not_eq_true',List.all_eq_true,Bool.or_eq_true,beq_eq_false_iff_ne] at h1
   obtain ⟨hself,hall⟩:=h1
   refine ⟨hio,.cons (fun y hy=>(hall y hy).1.1) ih.ne,.cons (fun y hy=>(hall y hy).1.2) ih.pair,.cons (fun y hy o' ho'=>?_) ih.edge,fun z hz o' ho'=>?_⟩
   ·rw [ho] at ho';cases ho';exact (hall y hy).2
   ·rcases List.mem_cons.1 hz with rfl | hz
    ·rw [ho] at ho';cases ho';exact hself
    ·exact ih.self z hz o' ho'
  ·cases h1
variable {P:Program} {F:Fence} {n:Nat}
theorem drawn (hF:FOk F) {Γ:Cx} (hY:YOk P Γ.w0 Y Γ.G0 Γ.σ0 Γ.wE) {ops:Array Oper} {nx:Nat} {K:Env→Hp→Nat→Prop} {Q:Exit→Act→World→Prop} {B:List Nat} (hn0:Γ.nx0≤nx) (hB:okMasks B 0 ops.toList = true) (hlt:∀ o∈ops,∀ e∈o.after,e.on < ops.size)
  (hK:∀ E E' H t,EqE E E'→K E H t→K E' H t) :
  ∀ (m:Nat) (l:List Opr) (listed:Array Bool) (E:Env) (H:Hp) (top:Nat) (a:Act) (w:World),l.length = m→Static P Γ.nt ops B l→listed.size = ops.size →
   (∀ i,i < ops.size→(listed.getD i true = false↔∃ io∈l,io.i = i))→(∀ i j,i < ops.size→j < ops.size→listed.getD i false = true→(B.getD i 0).testBit j = true→listed.getD j false = true)→nx+8 * ops.size≤top →
   SRr Γ (fun j=>(Γ.nx0≤j∧j < nx)∨(∃ i,i < ops.size∧listed.getD i false = true∧nx+8 * i≤j∧j < nx+8 * i+8)∨(nx+8 * ops.size≤j∧j < top)) E H a w→wpOps P Y nx l E H top K →
   (∀ E' H' top' a' w',K E' H' top'→nx+8 * ops.size≤top'→SRr Γ (fun j=>Γ.nx0≤j∧j < top') E' H' a' w'→Q .normal a' w')→wpAnyIn F n P .any ops Q m listed a w:=by
 intro m
 induction m with
 | zero =>
  intro l listed E H top a w hm hst hsz hl hcl htop hs hw hq
  have:l = []:=List.length_eq_zero_iff.1 hm
  subst this
  refine ⟨?_,hq _ _ _ _ _ hw htop (hs.weaken fun j hj=>?_)⟩
  ·rw [List.eq_nil_iff_forall_not_mem]
   intro i hi
   rw [mem_ready] at hi
   obtain ⟨h0,o,ho,_⟩:=hi
   obtain ⟨io,hio,_⟩:=(hl i (Array.getElem?_eq_some_iff.1 ho).1).1 h0
   cases hio
  ·rcases hj with hj | ⟨i,h1,_,h2,h3⟩ | hj <;> omega
 | succ m ih =>
  intro l listed E H top a w hm hst hsz hl hcl htop hs hw hq
  have bool:∀ i,i < ops.size→(listed.getD i true = false∨listed.getD i false = true):=by
   intro i hi
   have hi':i < listed.size:=by omega
   simp only [Array.getD_eq_getD_getElem?,Array.getElem?_eq_getElem hi',Option.getD_some]
   cases listed[i] <;> simp
  refine ⟨fun hnil=>?_,fun i hi=>?_⟩
  ·exfalso
   cases l with
   | nil=>simp at hm
   | cons x l =>
    obtain ⟨o,ho,_⟩:=hst.ios x (by simp)
    have hx:x.i < ops.size:=(Array.getElem?_eq_some_iff.1 ho).1
    have:x.i∈Region.ready .any ops listed:=by
     rw [mem_ready]
     refine ⟨(hl x.i hx).2 ⟨x,by simp,rfl⟩,o,ho,fun e he hb=>?_⟩
     have hon:=hlt o (Array.mem_of_getElem? ho) e he
     rcases bool e.on hon with h | h
     ·obtain ⟨z,hz,hzi⟩:=(hl _ hon).1 h
      have hbit:=edgeMask_has he hb
      rcases List.mem_cons.1 hz with rfl | hz
      ·rw [← hzi] at hbit
       rw [hst.self z (by simp) o ho] at hbit
       cases hbit
      ·have:=(List.pairwise_cons.1 hst.edge).1 z hz o ho
       rw [hzi,hbit] at this
       cases this
     ·exact h
    rw [hnil] at this
    cases this
  ·rw [mem_ready] at hi
   obtain ⟨h0,o,ho,hedges⟩:=hi
   have hi:i < ops.size:=(Array.getElem?_eq_some_iff.1 ho).1
   obtain ⟨io,hio,rfl⟩:=(hl i hi).1 h0
   obtain ⟨l1,l2,rfl⟩:=List.append_of_mem hio
   have hBi:B.getD io.i 0 = edgeMask B o:=by
    have:=okMasks_get hB (k:=io.i) (o:=o) (by simpa using ho)
    simpa using this
   -- what the operation waits for has been
   have hanc:∀ j,j < ops.size→(B.getD io.i 0).testBit j = true→listed.getD j false = true:=by
    intro j hj hb
    rw [hBi] at hb
    obtain ⟨e,he,hbe,h | h⟩:=edgeMask_bit hb
    ·rw [← h];exact hedges e he hbe
    ·exact hcl e.on j (hlt o (Array.mem_of_getElem? ho) e he) hj (hedges e he hbe) h
   have hne:=hst.ne
   have hpair:=hst.pair
   rw [List.pairwise_append] at hne hpair
   have hsw:∀ x∈l1,okSwap x io = true∧x.i≠io.i:=by
    intro x hx
    refine ⟨?_,hne.2.2 x hx io (by simp)⟩
    rcases hpair.2.2 x hx io (by simp) with h | h
    ·exact h
    ·exfalso
     obtain ⟨ox,hox,_⟩:=hst.ios x (by simp [hx])
     have hxi:x.i < ops.size:=(Array.getElem?_eq_some_iff.1 hox).1
     have h1:=hanc x.i hxi h
     have h2:=(hl x.i hxi).2 ⟨x,by simp [hx],rfl⟩
     have hx':x.i < listed.size:=by omega
     simp only [Array.getD_eq_getD_getElem?,Array.getElem?_eq_getElem hx',Option.getD_some] at h1 h2
     rw [h1] at h2;cases h2
   have free:∀ z∈l1++io::l2,Free nx H top z:=by
    intro z hz
    obtain ⟨oz,hoz,_⟩:=hst.ios z hz
    have hzi:z.i < ops.size:=(Array.getElem?_eq_some_iff.1 hoz).1
    refine ⟨by omega,fun j h1 h2=>?_⟩
    obtain ⟨G,σ,_,_,_,hrel,_⟩:=hs
    cases e:H j with
    | none=>rfl
    | some ob =>
     exfalso
     rcases hrel.hdom j ob e with hD | hD | ⟨i,hi',hli,h3,h4⟩ | hD
     ·exact Γ.hD0 j (by omega) hD
     ·omega
     ·have : i = z.i := by omega
      subst this
      have h2:=(hl z.i hzi).2 ⟨z,hz,rfl⟩
      have hz':z.i < listed.size:=by omega
      simp only [Array.getD_eq_getD_getElem?,Array.getElem?_eq_getElem hz',Option.getD_some] at hli h2
      rw [hli] at h2;cases h2
     ·omega
   obtain ⟨o',ho',hok⟩:=hst.ios io (by simp)
   rw [ho] at ho';cases ho'
   have hw':=front hY.1 hK l1 E H top hsw hne.1 (fun x hx=>free x (by simp [hx])) (free io (by simp)) hw
   have hset:∀ k,k < ops.size→k≠io.i→∀ d,(listed.setIfInBounds io.i true).getD k d = listed.getD k d:=fun k _ hk d=>getD_set_ne d (Ne.symm hk)
   have hsetT:∀ d,(listed.setIfInBounds io.i true).getD io.i d = true:=fun d=>by
    have:io.i < listed.size:=by omega
    simp [Array.getD_eq_getD_getElem?,this]
   refine op1_sound hF hY ho hok (fun j h1 h2 hj=>?_) (fun j h1 hj=>?_) hn0 (by omega) hs hw' ?_
   ·rcases hj with hj | ⟨i,hi',hli,h3,h4⟩ | hj
    ·omega
    ·have : i = io.i := by omega
     subst this
     have h2:=h0
     have hz':io.i < listed.size:=by omega
     simp only [Array.getD_eq_getD_getElem?,Array.getElem?_eq_getElem hz',Option.getD_some] at hli h2
     rw [hli] at h2;cases h2
    ·omega
   ·rcases hj with hj | ⟨i,hi',hli,h3,h4⟩ | hj <;> omega
   ·intro E' H' top' a' w' hk hle hs'
    refine ih (l1++l2) _ E' H' top' a' w' (by simp at hm ⊢;omega) (hst.sub (by simp)) (by simp [hsz]) (fun k hkk=>?_) (fun k j hkk hj h1 h2=>?_) (by omega) (hs'.weaken fun j hj=>?_) hk hq
    ·by_cases e:k = io.i
     ·subst e
      rw [hsetT]
      simp only [Bool.true_eq_false,List.mem_append,false_iff,not_exists,not_and]
      intro z hz hzi
      rcases hz with hz | hz
      ·exact (hsw z hz).2 hzi
      ·have:=(List.pairwise_cons.1 hne.2.1).1 z hz;omega
     ·rw [hset k hkk e,hl k hkk]
      constructor
      ·rintro ⟨z,hz,rfl⟩
       simp only [List.mem_append,List.mem_cons] at hz ⊢
       rcases hz with hz | rfl | hz
       ·exact ⟨z,.inl hz,rfl⟩
       ·exact absurd rfl e
       ·exact ⟨z,.inr hz,rfl⟩
      ·rintro ⟨z,hz,rfl⟩
       simp only [List.mem_append,List.mem_cons] at hz ⊢
       rcases hz with hz | hz
       ·exact ⟨z,.inl hz,rfl⟩
       ·exact ⟨z,.inr (.inr hz),rfl⟩
    ·by_cases ej:j = io.i
     ·subst ej;exact hsetT _
     ·rw [hset j hj ej]
      by_cases ek:k = io.i
      ·subst ek;exact hanc j hj h2
      ·rw [hset k hkk ek] at h1;exact hcl k j hkk hj h1 h2
    ·rcases hj with (hj | ⟨i,hi',hli,h3⟩ | hj) | hj | hj
     ·exact .inl hj
     ·refine .inr (.inl ⟨i,hi',?_,h3⟩)
      by_cases e:i = io.i
      ·subst e;exact hsetT _
      ·rw [hset i hi' e];exact hli
     ·exact .inr (.inr (by omega))
     ·exact .inr (.inl ⟨io.i,hi,hsetT _,hj⟩)
     ·exact .inr (.inr (by omega))
end Go.Dp
