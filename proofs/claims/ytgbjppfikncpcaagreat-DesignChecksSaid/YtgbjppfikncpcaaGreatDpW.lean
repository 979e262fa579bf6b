/- Rules for stepping through code over deep values. -/
import Derived.Test.YtgbjppfikncpcaaGreatDpRunS
import Derived.Attr
namespace Go.Dp
open Go.RowKit
set_option linter.unusedSimpArgs false
set_option linter.unusedVariables false
section
variable {P:Program} {Y:Ys}
theorem refC_of_pure0 {f:FuncId} {vs ds:List V} {H H1:Hp} {top:Nat} {R:V→Prop} (hm:mapS (frz 12) vs H = some (ds,H1)) (hp:PureC P f ds R) (ht:∀ r,R r→∃ d,thaw 4 r = some d) :
  RefC P Y f vs H top fun r' H' t=>(∃ r,R r∧thaw 4 r = some r')∧H' = H1∧t = top:=by
 refine ⟨hp.1,fun w0 w G σ D vals hrel hD hvs _=>?_⟩
 obtain ⟨hx,G1,hG1,hn1,hr1,hd1⟩:=mapS_sound (fun v x d G H H' e h1 h2=>frz_sound 12 v x d G H H' e h1 h2) hm hrel hvs
 refine (hp.2 G1 w vals hr1.gok hd1).mono ?_
 rintro e w' ⟨r,x,rfl,hR,hb,G2,bs,hG2,hok2,hn2,hown,hnd⟩
 obtain ⟨d,hd⟩:=ht r hR
 have hr2:=hr1.after hb hG2 hok2 hn2
 have haw:Away σ H1 bs:=fun b hb hl=>absurd (hl.lt hr1) (by have:=hown.lo b hb;omega)
 have hr3:=hr2.thaw haw
 have hdr:=thaw_sound hok2 4 hown (fun b hb=>hb) hd
 have hw0:w0.heap.size≤w.heap.size:=hrel.old.size
 refine ⟨d,x,H1,top,G2.with w' bs,σ,rfl,⟨⟨r,hR,hd⟩,rfl,rfl⟩,Nat.le_refl _,fun j _ hj=>?_,NC.of_below hb,(hG1.trans hG2).trans (Gm.with_ext hok2 bs),fun b o v e=>?_,SExt.refl _,hr3.weaken fun j hj=>.inl hj,.deep hdr⟩
 ·cases e:H1 j with
  | none=>rfl
  | some ob=>obtain ⟨k,_,e2⟩:=hx.2 _ _ e;rw [hj] at e2;cases e2
 ·simp only [Gm.with] at e
  split at e
  ·rename_i hin;have:=hown.lo b hin;exact .inr (by omega)
  ·rcases hn2 _ _ _ e with e | e
   ·rcases hn1 _ _ _ e with e | e
    ·exact .inl e
    ·exact .inr (e.le hrel)
   ·exact .inr (by omega)
def V.flat:Nat→V→Bool
 | _,.bool _=>true
 | _,.int _ _=>true
 | _,.str _=>true
 | _,.nilp=>true
 | _,.nils=>true
 | _,.nilm=>true
 | _,.nilf=>true
 | _,.nili=>true
 | n+1,.tup l=>l.all (V.flat n)
 | n+1,.agg l=>l.all (V.flat n)
 | _,_=>false
theorem DRL.flat {G G':Gm} {n:Nat} (ih:∀ {v:V} {x:Value},DR G v x→V.flat n v = true→DR G' v x):∀ {l:List V} {m:List Value},DRL G l m→l.all (V.flat n) = true→DRL G' l m
 | _,_,.nil,_=>.nil
 | _,_,.cons h t,hf=>by
  rw [List.all_cons,Bool.and_eq_true] at hf
  exact .cons (ih h hf.1) (DRL.flat ih t hf.2)
theorem DR.flat {G G':Gm}:∀ (n:Nat) {v:V} {x:Value},DR G v x→V.flat n v = true→DR G' v x
 | 0,v,x,h,hf=>by
  cases h with
  | bool b=>exact .bool b
  | int k n=>exact .int k n
  | str s=>exact .str s
  | nilp=>exact .nilp
  | nils=>exact .nils
  | nilm=>exact .nilm
  | nilf=>exact .nilf
  | nili=>exact .nili
  | _=>simp [V.flat] at hf
 | n+1,v,x,h,hf=>by
  cases h with
  | bool b=>exact .bool b
  | int k n=>exact .int k n
  | str s=>exact .str s
  | nilp=>exact .nilp
  | nils=>exact .nils
  | nilm=>exact .nilm
  | nilf=>exact .nilf
  | nili=>exact .nili
  | tup h=>exact .tup (h.flat (fun a b=>DR.flat n a b) hf)
  | agg h h1=>exact .agg (h.flat (fun a b=>DR.flat n a b) hf) h1
  | _=>simp [V.flat] at hf
theorem refC_of_pureA {f:FuncId} {vs ds:List V} {H H1:Hp} {top:Nat} {e r:V} (hm:mapS (frz 12) vs H = some (ds,H1)) (hp:PureC P f ds (fun r=>r = e)) (ht:thaw 4 e = some r) (hf:V.flat 3 r = true) :
  RefC P Y f vs H top fun r' H' t=>r' = r∧H' = H∧t = top:=by
 refine ⟨hp.1,fun w0 w G σ D vals hrel hD hvs _=>?_⟩
 obtain ⟨hx,G1,hG1,hn1,hr1,hd1⟩:=mapS_sound (fun v x d G H H' e h1 h2=>frz_sound 12 v x d G H H' e h1 h2) hm hrel hvs
 refine (hp.2 G1 w vals hr1.gok hd1).mono ?_
 rintro e' w' ⟨r2,x,rfl,hR,hb,G2,bs,hG2,hok2,hn2,hown,hnd⟩
 subst hR
 have hdr:=thaw_sound hok2 4 hown (fun b hb=>hb) ht
 have hok:GOk G w':=fun b o v e=>by
  rw [World.cell?_of_block (w:=w) (hb.block b (hrel.gok.lt e))];exact hrel.gok b o v e
 have hr3:=hrel.after hb (GExt.refl G) hok (fun b o v e=>.inl e)
 exact ⟨r,x,H,top,G,σ,rfl,⟨rfl,rfl,rfl⟩,Nat.le_refl _,fun j _ hj=>hj,NC.of_below hb,GExt.refl G,fun b o v e=>.inl e,SExt.refl _,hr3.weaken fun j hj=>.inl hj,.deep (hdr.flat 3 hf)⟩
theorem refC_of_pure1 {f:FuncId} {vs ds:List V} {H H1:Hp} {top:Nat} {R:V→Prop} (hm:mapS (frz 12) vs H = some (ds,H1)) (hp:PureC P f ds R) (ht:∀ r,R r→∃ r' H2 id',opn 3 r top H1 = some (r',H2,id')) :
  RefC P Y f vs H top fun r' H' t=>∃ r,R r∧opn 3 r top H1 = some (r',H',t):=by
 refine ⟨hp.1,fun w0 w G σ D vals hrel hD hvs _=>?_⟩
 obtain ⟨hx,G1,hG1,hn1,hr1,hd1⟩:=mapS_sound (fun v x d G H H' e h1 h2=>frz_sound 12 v x d G H H' e h1 h2) hm hrel hvs
 refine (hp.2 G1 w vals hr1.gok hd1).mono ?_
 rintro e w' ⟨r,x,rfl,hR,hb,G2,bs,hG2,hok2,hn2,hown,hnd⟩
 obtain ⟨r',H2,id',ho⟩:=ht r hR
 have hr2:=hr1.after hb hG2 hok2 hn2
 have haw:Away σ H1 bs:=fun b hb hl=>absurd (hl.lt hr1) (by have:=hown.lo b hb;omega)
 have hw0:w0.heap.size≤w.heap.size:=hrel.old.size
 have le1:=opn_le 3 ho
 obtain ⟨_,σ3,hs3,hr3,_,hv3⟩:=opn_sound 3 r x r' σ H1 H2 _ top id' bs ho hr2 (fun j h1 h2 hj=>hD j h1 hj) (hown.low hw0) hnd haw
 refine ⟨r',x,H2,id',G2,σ3,rfl,⟨r,hR,ho⟩,le1,fun j hj hn=>?_,NC.of_below hb,hG1.trans hG2,fun b o v e=>?_,hs3,hr3,hv3⟩
 ·rw [(opn_frame (ob := default) 3 _ _ _ _ _ _ ho (by omega)).2]
  cases e:H1 j with
  | none=>rfl
  | some ob=>obtain ⟨k,_,e2⟩:=hx.2 _ _ e;rw [hn] at e2;cases e2
 ·rcases hn2 _ _ _ e with e | e
  ·rcases hn1 _ _ _ e with e | e
   ·exact .inl e
   ·exact .inr (e.le hrel)
  ·exact .inr (by omega)
theorem mapS_none {vs ds:List V} {H H1:Hp} (hm:mapS (frz 12) vs H = some (ds,H1)) {j:Nat} (hj:H j = none):H1 j = none:=(mapS_hex (frz_hex 12) hm).none hj
theorem W.pc0 {f:FuncId} {vs ds:List V} {H H1:Hp} {id top fl:Nat} {e r:V} {K:V→Hp→Nat→Prop} (hp:PureC P f ds (fun r=>r = e)) (hm:mapS (frz 12) vs H = some (ds,H1)) (ht:thaw 4 e = some r) (h:K r H1 top):CallW P Y (fl+2) f vs H id top K :=
 ⟨_, refC_of_pure0 hm hp (fun r' hr => by subst hr; exact ⟨r, ht⟩), ⟨r, H1, top, ⟨⟨e, rfl, ht⟩, rfl, rfl⟩, Nat.le_refl _, fun j _ hj => mapS_none hm hj⟩,
  fun r' H' t ⟨⟨r2,h1,h2⟩,h3,h4⟩ _ _=>by subst h1;subst h3;subst h4;rw [ht] at h2;cases h2;exact h⟩
theorem W.pcA {f:FuncId} {vs ds:List V} {H H1:Hp} {id top fl:Nat} {e r:V} {K:V→Hp→Nat→Prop} (hm:mapS (frz 12) vs H = some (ds,H1)) (hp:PureC P f ds (fun r=>r = e)) (ht:thaw 4 e = some r) (hf:V.flat 3 r = true) (h:K r H top):CallW P Y (fl+2) f vs H id top K :=
 ⟨_,refC_of_pureA hm hp ht hf,⟨r,H,top,⟨rfl,rfl,rfl⟩,Nat.le_refl _,fun _ _ h=>h⟩,fun _ _ _ ⟨a,b,c⟩ _ _=>by subst a b c;exact h⟩
theorem W.pc1 {f:FuncId} {vs ds:List V} {H H1 H2:Hp} {id id' top fl:Nat} {e r:V} {K:V→Hp→Nat→Prop} (hp:PureC P f ds (fun r=>r = e)) (hm:mapS (frz 12) vs H = some (ds,H1)) (ht:opn 3 e top H1 = some (r,H2,id')) (h:K r H2 id'):CallW P Y (fl+2) f vs H id top K :=
 ⟨_, refC_of_pure1 hm hp (fun r' hr => by subst hr; exact ⟨r, H2, id', ht⟩), ⟨r, H2, id', ⟨e, rfl, ht⟩, opn_le 3 ht, fun j hj hn => by
   rw [(opn_frame (ob:=default) 3 _ _ _ _ _ _ ht (by omega)).2];exact mapS_none hm hn⟩,
  fun r' H' t ⟨r2,h1,h2⟩ _ _=>by subst h1;rw [ht] at h2;cases h2;exact h⟩
theorem W.pd0 {f:FuncId} {vs ds:List V} {H H1:Hp} {id top:Nat} {e r:V} {K:V→Hp→Nat→Prop} (hp:PureC P f ds (fun r=>r = e)) (hm:mapS (frz 12) vs H = some (ds,H1)) (ht:thaw 4 e = some r) (h:K r H1 top):CallW P Y 0 f vs H id top K :=
 ⟨ds,H1,_,hm,hp,⟨e,rfl⟩,fun r' hr=>⟨r,by rw [hr];exact ht,h⟩⟩
theorem W.pd1 {f:FuncId} {vs ds:List V} {H H1 H2:Hp} {id id' top:Nat} {e r:V} {K:V→Hp→Nat→Prop} (hp:PureC P f ds (fun r=>r = e)) (hm:mapS (frz 12) vs H = some (ds,H1)) (ht:opn 3 e id H1 = some (r,H2,id')) (hid:id'≤id+8) (h:K r H2 top):CallW P Y 1 f vs H id top K :=
 ⟨ds,H1,_,hm,hp,⟨e,rfl⟩,fun r' hr=>⟨r,H2,id',by rw [hr];exact ht,hid,h⟩⟩
theorem W.ref {f:FuncId} {vs:List V} {H:Hp} {id top fl t:Nat} {r:V} {H2:Hp} {K:V→Hp→Nat→Prop} (hp:RefC P Y f vs H top (fun r' H' t'=>r' = r∧H' = H2∧t' = t)) (ht:top≤t) (hd:∀ j,j < top→H j = none→H2 j = none) (h:K r H2 t):CallW P Y (fl+2) f vs H id top K :=
 ⟨_,hp,⟨r,H2,t,⟨rfl,rfl,rfl⟩,ht,hd⟩,fun _ _ _ ⟨a,b,c⟩ _ _=>by subst a b c;exact h⟩
theorem W.yl {o:Nat} {vs:List V} {H:Hp} {id top fl:Nat} {y:YH} {K:V→Hp→Nat→Prop} (hy:Y o = some y) (h:y vs H top K):CallT P Y (fl+2) (.yl o) vs H id top K :=
 ⟨by omega,y,K,hy,fun _ _ _ h _ _=>h,h⟩
def kReg (keep:List Nat) (K:Ex→St→Prop) (E:Env) (H:Hp) (top:Nat):Prop:=K .nm ⟨keepE E keep,H,top⟩
theorem step_nd {op:IOp} {rd:Opd→Option V} {H:Hp} {id:Nat} {r:V × Hp} (h:stepOp op rd H id = some r):op.nd = false:=by
 cases op <;> first | rfl | cases h
variable {K:Ex→St→Prop} {st:St} {fr E:Env} {H H':Hp} {nx top:Nat} {l:List Opr} {Q:Env→Hp→Nat→Prop} {i fl:Nat} {d:Option Nat} {op:IOp} {v:V}
theorem W.skip (h:K .nm st):wp P Y .skip K st:=h
theorem W.exit {id:Nat} (h:K (.ex id) st):wp P Y (.exit id) K st:=h
theorem W.ret (h:K .rt st):wp P Y .ret K st:=h
theorem W.seq {a b:C} (h:wp P Y a (kSeq (wp P Y b K) K) st):wp P Y (.seq a b) K st:=h
theorem W.blk {a:C} {id:Nat} (h:wp P Y a (kBlk id K) st):wp P Y (.blk id a) K st:=h
theorem W.reg {dr:Bool} {ops:List Opr} {keep:List Nat} (hl:nx+8 * ops.length = top) (h:wpOps P Y nx ops fr H top (kReg keep K)):wp P Y (.reg dr ops keep) K ⟨fr,H,nx⟩:=by
 subst hl;exact h
theorem W.condT {c:Opd} {a b:C} (hc:rdE fr c = some (.bool true)) (h:wp P Y a K ⟨fr,H,nx⟩):wp P Y (.cond c a b) K ⟨fr,H,nx⟩:=by
 simp only [wp,hc];exact h
theorem W.condF {c:Opd} {a b:C} (hc:rdE fr c = some (.bool false)) (h:wp P Y b K ⟨fr,H,nx⟩):wp P Y (.cond c a b) K ⟨fr,H,nx⟩:=by
 simp only [wp,hc];exact h
theorem W.kseq {k:St→Prop} (h:k st):kSeq k K .nm st:=⟨st.fr,st.H,fun _ _ h=>h,HS.refl _,h⟩
theorem W.kseqE {k:St→Prop} {id:Nat} (h:K (.ex id) st):kSeq k K (.ex id) st:=h
theorem W.kseqR {k:St→Prop} (h:K .rt st):kSeq k K .rt st:=h
theorem W.kblk {id:Nat} (h:K .nm st):kBlk id K .nm st:=h
theorem W.kblkR {id:Nat} (h:K .rt st):kBlk id K .rt st:=h
theorem W.kblkE {id:Nat} (h:K .nm st):kBlk id K (.ex id) st:=by simp only [kBlk,if_true];exact h
theorem W.kblkN {id i:Nat} (hi:(i == id) = false) (h:K (.ex i) st):kBlk id K (.ex i) st:=by
 have:i≠id:=by simpa using hi
 simp only [kBlk,this,if_false];exact h
theorem W.kloopE {keep:List Nat} {I:St→Prop} {μ:St→Nat} {m id:Nat} (h:K (.ex id) st):kLoop keep I μ m K (.ex id) st:=h
theorem W.kloopR {keep:List Nat} {I:St→Prop} {μ:St→Nat} {m:Nat} (h:K .rt st):kLoop keep I μ m K .rt st:=h
theorem W.nil (h:Q E H top):wpOps P Y nx [] E H top Q:=h
theorem W.kreg {keep:List Nat} {E':Env} (he:keepE E keep = E') (h:K .nm ⟨E',H,top⟩):kReg keep K E H top:=by subst he;exact h
theorem W.opr (hs:stepOp op (rdE E) H (nx+8 * i) = some (v,H')) (h:wpOps P Y nx l (putE d v E) H' top Q):wpOps P Y nx (⟨i,d,op,fl,none⟩::l) E H top Q:=by
 have h2:wpOp1 P Y nx ⟨i,d,op,fl,none⟩ E H top (fun E' H' t'=>wpOps P Y nx l E' H' t' Q):=by
  rw [wpOp1_iff]
  exact .inl ⟨rfl,(exec_op (step_nd hs)).2 ⟨v,H',hs,h⟩⟩
 exact h2
theorem W.oprS {s:Nat} (hs:stepOp op (rdE E) H (nx+8 * i) = some (v,H')) (h:wpOps P Y nx l ((s,v)::E) H' top Q):wpOps P Y nx (⟨i,some s,op,fl,none⟩::l) E H top Q:=W.opr hs h
theorem W.oprN (hs:stepOp op (rdE E) H (nx+8 * i) = some (v,H')) (h:wpOps P Y nx l E H' top Q):wpOps P Y nx (⟨i,none,op,fl,none⟩::l) E H top Q:=W.opr hs h
theorem W.guardT {s:Nat} {b:Bool} (hs:look s E = some (.bool b)) (h:wpOps P Y nx (⟨i,d,op,fl,none⟩::l) E H top Q):wpOps P Y nx (⟨i,d,op,fl,some (s,b)⟩::l) E H top Q:=by
 have h1:wpOp1 P Y nx ⟨i,d,op,fl,none⟩ E H top (fun E' H' t'=>wpOps P Y nx l E' H' t' Q):=h
 have h2:wpOp1 P Y nx ⟨i,d,op,fl,some (s,b)⟩ E H top (fun E' H' t'=>wpOps P Y nx l E' H' t' Q):=by
  rw [wpOp1_iff] at h1 ⊢
  rcases h1 with ⟨_,h1⟩ | ⟨h1,_⟩
  ·exact .inl ⟨by simp [Opr.goes,hs],h1⟩
  ·cases h1
 exact h2
theorem W.guardF {s:Nat} {b c:Bool} (hs:look s E = some (.bool c)) (hc:(c == b) = false) (h:wpOps P Y nx l (putE d V.undef E) H top Q):wpOps P Y nx (⟨i,d,op,fl,some (s,b)⟩::l) E H top Q:=by
 have h2:wpOp1 P Y nx ⟨i,d,op,fl,some (s,b)⟩ E H top (fun E' H' t'=>wpOps P Y nx l E' H' t' Q):=by
  rw [wpOp1_iff]
  refine .inr ⟨?_,h⟩
  have:c≠b:=by simpa using hc
  simp [Opr.goes,hs,this]
 exact h2
theorem W.guardU {s:Nat} {b:Bool} {m:List V} (hs:look s E = some (.tup m)) (h:wpOps P Y nx l (putE d V.undef E) H top Q):wpOps P Y nx (⟨i,d,op,fl,some (s,b)⟩::l) E H top Q:=by
 have h2:wpOp1 P Y nx ⟨i,d,op,fl,some (s,b)⟩ E H top (fun E' H' t'=>wpOps P Y nx l E' H' t' Q):=by
  rw [wpOp1_iff]
  exact .inr ⟨by simp [Opr.goes,hs],h⟩
 exact h2
theorem W.gT {s:Nat} {p:Prop} {hd:Decidable p} (hs:look s E = some (.bool (@decide p hd))) (hp:p) (h:wpOps P Y nx (⟨i,d,op,fl,none⟩::l) E H top Q):wpOps P Y nx (⟨i,d,op,fl,some (s,true)⟩::l) E H top Q:=W.guardT (by rw [hs,decide_eq_true hp]) h
theorem W.gF {s:Nat} {p:Prop} {hd:Decidable p} (hs:look s E = some (.bool (@decide p hd))) (hp:¬ p) (h:wpOps P Y nx l (putE d V.undef E) H top Q):wpOps P Y nx (⟨i,d,op,fl,some (s,true)⟩::l) E H top Q:=W.guardF (c:=false) (by rw [hs,decide_eq_false hp]) rfl h
theorem W.gnF {s:Nat} {p:Prop} {hd:Decidable p} (hs:look s E = some (.bool (@decide p hd))) (hp:p) (h:wpOps P Y nx l (putE d V.undef E) H top Q):wpOps P Y nx (⟨i,d,op,fl,some (s,false)⟩::l) E H top Q:=W.guardF (c:=true) (by rw [hs,decide_eq_true hp]) rfl h
theorem W.gnT {s:Nat} {p:Prop} {hd:Decidable p} (hs:look s E = some (.bool (@decide p hd))) (hp:¬ p) (h:wpOps P Y nx (⟨i,d,op,fl,none⟩::l) E H top Q):wpOps P Y nx (⟨i,d,op,fl,some (s,false)⟩::l) E H top Q:=W.guardT (by rw [hs,decide_eq_false hp]) h
theorem W.cT {c:Opd} {a b:C} {p:Prop} {hd:Decidable p} (hc:rdE fr c = some (.bool (@decide p hd))) (hp:p) (h:wp P Y a K ⟨fr,H,nx⟩):wp P Y (.cond c a b) K ⟨fr,H,nx⟩:=W.condT (by rw [hc,decide_eq_true hp]) h
theorem W.cF {c:Opd} {a b:C} {p:Prop} {hd:Decidable p} (hc:rdE fr c = some (.bool (@decide p hd))) (hp:¬ p) (h:wp P Y b K ⟨fr,H,nx⟩):wp P Y (.cond c a b) K ⟨fr,H,nx⟩:=W.condF (by rw [hc,decide_eq_false hp]) h
theorem W.call {f:FuncId} {args:List Opd} {vs:List V} (hv:rdL (rdE E) args = some vs) (h:CallW P Y fl f vs H (nx+8 * i) top (fun v H' t=>wpOps P Y nx l (putE d v E) H' t Q)):wpOps P Y nx (⟨i,d,.call f args,fl,none⟩::l) E H top Q:=by
 have h2:wpOp1 P Y nx ⟨i,d,.call f args,fl,none⟩ E H top (fun E' H' t'=>wpOps P Y nx l E' H' t' Q):=by
  simp only [wpOp1,execIO,hv];exact h
 exact h2
theorem W.callv {g:Opd} {f:FuncId} {first caps:List V} {args:List Opd} {vs:List V} (hg:rdE E g = some (.clo (.func f) first caps)) (hv:rdL (rdE E) args = some vs)
  (h:CallW P Y fl f (first++vs++caps) H (nx+8 * i) top (fun v H' t=>wpOps P Y nx l (putE d v E) H' t Q)):wpOps P Y nx (⟨i,d,.callv g args,fl,none⟩::l) E H top Q:=by
 have h2:wpOp1 P Y nx ⟨i,d,.callv g args,fl,none⟩ E H top (fun E' H' t'=>wpOps P Y nx l E' H' t' Q):=by
  simp only [wpOp1,execIO,hg,hv];exact h
 exact h2
theorem W.callm {g:Opd} {name:String} {t:TypeId} {x:V} {f:FuncId} {first caps:List V} {args:List Opd} {vs:List V} (hg:rdE E g = some (.clo (.method name) (.ifc t x::first) caps)) (hv:rdL (rdE E) args = some vs) (hm:MethP P t name f)
  (h:CallW P Y fl f (x::first++vs) H (nx+8 * i) top (fun v H' t=>wpOps P Y nx l (putE d v E) H' t Q)):wpOps P Y nx (⟨i,d,.callv g args,fl,none⟩::l) E H top Q:=by
 have h2:wpOp1 P Y nx ⟨i,d,.callv g args,fl,none⟩ E H top (fun E' H' t'=>wpOps P Y nx l E' H' t' Q):=by
  simp only [wpOp1,execIO,hg,hv];exact ⟨f,hm,h⟩
 exact h2
theorem W.inv {r:Opd} {name:String} {t:TypeId} {x:V} {f:FuncId} {args:List Opd} {vs:List V} (hg:rdE E r = some (.ifc t x)) (hv:rdL (rdE E) args = some vs) (hm:MethP P t name f)
  (h:CallW P Y fl f (x::vs) H (nx+8 * i) top (fun v H' t=>wpOps P Y nx l (putE d v E) H' t Q)):wpOps P Y nx (⟨i,d,.inv name r args,fl,none⟩::l) E H top Q:=by
 have h2:wpOp1 P Y nx ⟨i,d,.inv name r args,fl,none⟩ E H top (fun E' H' t'=>wpOps P Y nx l E' H' t' Q):=by
  simp only [wpOp1,execIO,hg,hv];exact ⟨f,hm,h⟩
 exact h2
theorem W.cally {g:Opd} {o:Nat} {args:List Opd} {vs:List V} (hg:rdE E g = some (.yld o)) (hv:rdL (rdE E) args = some vs)
  (h:CallT P Y fl (.yl o) vs H (nx+8 * i) top (fun v H' t=>wpOps P Y nx l (putE d v E) H' t Q)):wpOps P Y nx (⟨i,d,.callv g args,fl,none⟩::l) E H top Q:=by
 have h2:wpOp1 P Y nx ⟨i,d,.callv g args,fl,none⟩ E H top (fun E' H' t'=>wpOps P Y nx l E' H' t' Q):=by
  simp only [wpOp1,execIO,hg,hv];exact h
 exact h2
theorem W.eqa {neg r:Bool} {x y:Opd} {u:V} (hx:rdE E x = some u) (hy:rdE E y = some .nils) (hr:u.isNil H 1 = some r) (h:wpOps P Y nx l (putE d (.bool (r != neg)) E) H top Q):wpOps P Y nx (⟨i,d,.eqa neg x y,fl,none⟩::l) E H top Q:=by
 have h2:wpOp1 P Y nx ⟨i,d,.eqa neg x y,fl,none⟩ E H top (fun E' H' t'=>wpOps P Y nx l E' H' t' Q):=by
  simp only [wpOp1,execIO,hx,hy,hr];exact h
 exact h2
theorem HS.put {A B:Hp} {o:Nat} {ob ob':Ob} (e:ob = ob') (h:HS A B):HS (A.put o ob) (B.put o ob'):=fun i x e'=>by
 subst e
 simp only [Hp.put] at e' ⊢
 split at e'
 ·rename_i hc;rw [if_pos hc];exact e'
 ·rename_i hc;rw [if_neg hc];exact h i x e'
theorem HS.skip {A B:Hp} (h:HS A B) {o:Nat} (ho:A o = none) (ob:Ob):HS A (B.put o ob):=fun i x e=>by
 simp only [Hp.put]
 split
 ·rename_i hc;rw [hc,ho] at e;cases e
 ·exact h i x e
theorem HS.emp (B:Hp):HS (fun _=>none) B:=fun _ _ e=>by cases e
theorem W.loop {α:Type} {keep:List Nat} {a:C} (s:α→St) (Inv:α→Prop) (μ:α→Nat) (x0:α) (hi:Inv x0)
  (hstep:∀ x,Inv x→wp P Y a (kLoop keep (fun st=>∃ y,Inv y∧st = s y∧μ y < μ x) (fun _=>0) 1 K) (s x)) (h0:keepE fr keep = (s x0).fr:=by exact rfl) (hH:HS (s x0).H H:=by exact HS.refl _) (hn:nx = (s x0).nx:=by exact rfl):wp P Y (.loop keep a) K ⟨fr,H,nx⟩:=by
 classical
 let ν:St→Nat:=fun st=>if h:∃ y,Inv y∧st = s y then Classical.choose (exists_min μ h) |> μ else 0
 have hν:∀ y,Inv y→ν (s y)≤μ y:=fun y hy=>by
  have hex:∃ z,Inv z∧s y = s z:=⟨y,hy,rfl⟩
  show (if h:∃ z,Inv z∧s y = s z then μ (Classical.choose (exists_min μ h)) else 0)≤μ y
  rw [dif_pos hex]
  exact (Classical.choose_spec (exists_min μ hex)).2 y ⟨hy,rfl⟩
 refine ⟨fun st=>∃ y,Inv y∧st = s y,ν,⟨(s x0).H,hH,x0,hi,by rw [h0,hn]⟩,?_⟩
 intro st hst
 have hsp:=Classical.choose_spec (exists_min μ hst)
 have hνe:ν st = μ (Classical.choose (exists_min μ hst)):=by
  show (if h:∃ y,Inv y∧st = s y then μ (Classical.choose (exists_min μ h)) else 0) = _
  rw [dif_pos hst]
 have hx:=hstep _ hsp.1.1
 rw [← hsp.1.2] at hx
 refine wp_mono (fun e s' hh=>?_) hx
 cases e with
 | nm =>
  obtain ⟨H2,hH2,⟨y,hy,he,hlt⟩,_⟩:=hh
  refine ⟨H2,hH2,⟨y,hy,he⟩,?_⟩
  have:=hν y hy
  rw [hνe,he];omega
 | ex _=>exact hh
 | rt=>exact hh
theorem W.lp {α:Type} {keep:List Nat} {a:C} (f:α→Env) (g:α→Hp) (Inv:α→Prop) (μ:α→Nat) (x0:α) (h0:keepE fr keep = f x0) (hH:HS (g x0) H) (hi:Inv x0)
  (hstep:∀ x n,Inv x→nx≤n→wp P Y a (kLoop keep (fun st=>∃ y,(st.fr = f y∧st.H = g y∧nx≤st.nx)∧Inv y∧μ y < μ x) (fun _=>0) 1 K) ⟨f x,g x,n⟩):wp P Y (.loop keep a) K ⟨fr,H,nx⟩:=by
 refine W.loop (fun x:α × Nat=>⟨f x.1,g x.1,x.2⟩) (fun x=>Inv x.1∧nx≤x.2) (fun x=>μ x.1) (x0,nx) ⟨hi,Nat.le_refl _⟩ ?_ h0 hH rfl
 rintro ⟨x,n⟩ ⟨h1,h2⟩
 refine wp_mono (fun e s hk=>?_) (hstep x n h1 h2)
 cases e with
 | nm =>
  obtain ⟨H',hH',⟨y,⟨a1,a2,a3⟩,a4,a5⟩,a6⟩:=hk
  exact ⟨H',hH',⟨(y,s.nx),⟨a4,a3⟩,by simp only at a1 a2 ⊢;rw [a1,a2],a5⟩,a6⟩
 | ex _=>exact hk
 | rt=>exact hk
theorem W.kl {α:Type} {f:α→Env} {g:α→Hp} {Inv:α→Prop} {μ:α→Nat} {n m:Nat} {keep:List Nat} (y:α) (h0:keepE E keep = f y) (hH:HS (g y) H) (hn:n≤nx) (hi:Inv y) (hm:μ y < m) :
  kLoop keep (fun st=>∃ y,(st.fr = f y∧st.H = g y∧n≤st.nx)∧Inv y∧μ y < m) (fun _=>0) 1 K .nm ⟨E,H,nx⟩ :=
 ⟨g y,hH,⟨y,⟨h0,rfl,hn⟩,hi,hm⟩,Nat.zero_lt_one⟩
theorem W.retP {rs:List RV} {sh:Sh} {R:V→Prop} {u r:V} (hv:resV st rs = some u) (hf:fin 12 sh u st.H = some (r,H')) (h:R r):Go.Dp.retP rs sh R .rt st:=by
 simp only [Go.Dp.retP,hv,hf];exact h
theorem W.retPn {rs:List RV} {sh:Sh} {R:V→Prop} {u r:V} (hv:resV st rs = some u) (hf:fin 12 sh u st.H = some (r,H')) (h:R r):Go.Dp.retP rs sh R .nm st:=by
 simp only [Go.Dp.retP,hv,hf];exact h
def ES (A B:Env):Prop:=∀ n v,look n A = some v→look n B = some v
theorem ES.nil (B:Env):ES [] B:=fun _ _ h=>by cases h
theorem ES.skip {A B:Env} {n:Nat} {v:V} (hn:look n A = none) (h:ES A B):ES A ((n,v)::B):=fun m u e=>by
 simp only [look]
 split
 ·rename_i hc;subst hc;rw [hn] at e;cases e
 ·exact h m u e
def kCut (k:St→Prop) (K:Ex→St→Prop):Ex→St→Prop
 | .nm,st=>∃ E' H',ES E' st.fr∧HS H' st.H∧k ⟨E',H',st.nx⟩
 | e,st=>K e st
theorem W.kcutE {k:St→Prop} {id:Nat} (h:K (.ex id) st):kCut k K (.ex id) st:=h
theorem W.kcutR {k:St→Prop} (h:K .rt st):kCut k K .rt st:=h
end
end Go.Dp
