import Derived.Test.YtlbjgnkjicifhaaGreatDwC9
import Derived.Test.YtlbjgnkjicifhaaGreatDsM10
import Derived.Test.YtlbjgnkjicifhaaGreatDwE6
namespace Go.Dp
open Go.RowKit Go.Proofs
attribute [local irreducible] wp wpOps wpOp1 CallW CallT kSeq kBlk kLoop kReg retP retR kAsg kRound kRf kCut kItr kItr2
set_option linter.unusedVariables false
set_option linter.unusedSimpArgs false
def plcA (c:Cf) (b:Brd) (h:Int):List (Int × Int):=((hallsL c fun k=>decide (k≠h)).filter (ansB c b h)).map fun k=>(k,ansN c b h k)
def plcO (c:Cf) (b:Brd) (h:Int) (l:List Ln):List (Int × Int):=(l.filter fun x=>opnR c b x && decide (x.other = h)).map fun x=>(x.hall,x.nums.headD 0)
def plcL (c:Cf) (b:Brd) (h:Int):List (Int × Int):=plcA c b h++plcO c b h b.r
def addP (B:Int) (a:List Int × List Int) (p:Int × Int):List Int × List Int:=if decide ((a.1.length:Int)≤B) && !decide (p.1∈a.1) then (a.1++[p.1],a.2++[p.2]) else a
def accP (c:Cf) (b:Brd) (h:Int):List Int × List Int:=(plcL c b h).foldl (addP c.B) ([],[])
def revS (c:Cf) (b:Brd) (h:Int):Option Int:=(b.r.find? fun x=>revR c b x && decide (x.hall = h)).map fun x=>x.nums.headD 0
def secM (c:Cf) (b:Brd) (h:Int):Option Int:=match revS c b h with
 | some s=>some s
 | none=>if ((accP c b h).1.length:Int)≤c.B then none else some (valM c.P 0 (newtF c.P (accP c b h).1 (accP c b h).2 [] [1]))
theorem k175 (h k:Int):PureC Tryz.prog 175 [.int .i64 k,.fp [.int .i64 h] 0] (fun r=>r = .bool (decide (k≠h))):=by
 refine pureC_of_wp .x mixed ok175 rfl ?_
 unfold c175
 dsimp only [argE]
 refine W.run ?_
 rfl
theorem k137 (c:Cf) (b:Brd) (h:Int):PureC Tryz.prog 137 [stV c b,.int .i64 h] (fun r=>r = .clo (.func 174) [] [.fp [stV c b] 0,.fp [.int .i64 h] 0]):=by
 refine pureC_of_wp .x mixed ok137 rfl ?_
 unfold c137
 dsimp only [argE]
 refine W.run ?_
 rfl
def HPz (N:Nat) (sv:V) (B0:Hp) (r:Ob):List Int × List Int→Nat × Nat × Nat × Nat→Hp
 | ([],_),_=>(((B0.put 0 { cells:=[sv],sz:=1 }).put (N+8) { cells:=[.nils],sz:=1 }).put (N+8+8) { cells:=[.nils],sz:=1 }).put (N+48) r
 | (x::X,Y),(ix,vx,iy,vy)=>(((((B0.put 0 { cells:=[sv],sz:=1 }).put (N+8) { cells:=[.ref ix vx 0 (X.length+1)],sz:=1 }).put (N+8+8) { cells:=[.ref iy vy 0 (X.length+1)],sz:=1 }).put (N+48) r).put ix { cells:=(x::X).map (V.int .i64),sz:=1,ver:=vx }).put iy { cells:=Y.map (V.int .i64),sz:=1,ver:=vy }
def InvP (N o2:Nat) (a:List Int × List Int) (q:Nat × Nat × Nat × Nat) (n:Nat):Prop:=a.2.length = a.1.length∧a.1.length < 2 ^ 20∧(a.1≠[]→o2 < q.1∧q.1 < q.2.2.1∧q.2.2.1 < n)∧o2 < n∧N+49 < o2
def FreeB (N:Nat) (a:List Int × List Int) (q:Nat × Nat × Nat × Nat) (n:Nat) (B0:Hp):Prop:=∀ i,B0 i≠none→N+48 < i∧i < n∧(a.1≠[]→i≠q.1∧i≠q.2.2.1)
theorem HS.ag {B0 B:Hp} (h:∀ i,B0 i≠none→B i = B0 i):HS B0 B:=fun i ob e=>by
 rw [h i (by rw [e];simp)];exact e
theorem HPz_put {N o2:Nat} {sv:V} {B:Hp} {r ob:Ob} {a:List Int × List Int} {q:Nat × Nat × Nat × Nat} (h5:N+48 < o2) (h3:a.1≠[]→o2≠q.1∧o2≠q.2.2.1):(HPz N sv B r a q).put o2 ob = HPz N sv (B.put o2 ob) r a q:=by
 obtain ⟨X,Y⟩:=a
 obtain ⟨ix,vx,iy,vy⟩:=q
 cases X with
 | nil =>
  dsimp only [HPz]
  rw [put_comm (show N+48≠o2 by omega),put_comm (show N+8+8≠o2 by omega),put_comm (show N+8≠o2 by omega),put_comm (show 0≠o2 by omega)]
 | cons x X =>
  have:=h3 (by simp)
  dsimp only at this
  dsimp only [HPz]
  rw [put_comm (show iy≠o2 by omega),put_comm (show ix≠o2 by omega),put_comm (show N+48≠o2 by omega),put_comm (show N+8+8≠o2 by omega),put_comm (show N+8≠o2 by omega),put_comm (show 0≠o2 by omega)]
theorem InvP.apart {N o2 n:Nat} {a:List Int × List Int} {q:Nat × Nat × Nat × Nat} (h:InvP N o2 a q n):a.1≠[]→o2≠q.1∧o2≠q.2.2.1:=fun h2=>by have:=h.2.2.1 h2;omega
theorem HPz_at' {N i:Nat} {sv:V} {B:Hp} {r:Ob} {a:List Int × List Int} {q:Nat × Nat × Nat × Nat} (hi:N+48 < i) (h3:a.1≠[]→i≠q.1∧i≠q.2.2.1):HPz N sv B r a q i = B i:=by
 obtain ⟨X,Y⟩:=a
 obtain ⟨ix,vx,iy,vy⟩:=q
 cases X with
 | nil =>
  dsimp only [HPz]
  simp (disch:=omega) only [put_ne,ne_eq]
 | cons x X =>
  have:=h3 (by simp)
  dsimp only at this
  dsimp only [HPz]
  simp (disch:=omega) only [put_ne,ne_eq]
theorem HPz_at {N o2 n i:Nat} {sv:V} {B:Hp} {r:Ob} {a:List Int × List Int} {q:Nat × Nat × Nat × Nat} (h:InvP N o2 a q n) (hi:N+48 < i) (hi2:i≤o2):HPz N sv B r a q i = B i :=
 HPz_at' hi fun h2=>by have:=h.2.2.1 h2;omega
theorem HPz_rec {N o2 n:Nat} {sv:V} {B:Hp} {r:Ob} {a:List Int × List Int} {q:Nat × Nat × Nat × Nat} (h:InvP N o2 a q n):HPz N sv B r a q (N+48) = some r:=by
 obtain ⟨X,Y⟩:=a
 obtain ⟨ix,vx,iy,vy⟩:=q
 obtain ⟨h1,h2,h3,h4,h5⟩:=h
 cases X with
 | nil =>
  dsimp only [HPz]
  simp (disch:=omega) only [put_same,put_ne,ne_eq]
 | cons x X =>
  have:=h3 (by simp)
  dsimp only at this
  dsimp only [HPz]
  simp (disch:=omega) only [put_same,put_ne,ne_eq]
theorem HS.del {A B:Hp} {o:Nat} (h:HS A B) (ho:A o = none):HS A (B.del o):=fun i ob e=>by
 simp only [Hp.del]
 split
 ·rename_i hc;subst hc;rw [ho] at e;cases e
 ·exact h i ob e
theorem InvP.mono {N o2 n n':Nat} {a:List Int × List Int} {q:Nat × Nat × Nat × Nat} (h:InvP N o2 a q n) (hn:n≤n'):InvP N o2 a q n' :=
 ⟨h.1,h.2.1,fun h2=>by have:=h.2.2.1 h2;omega,by have:=h.2.2.2;omega⟩
def accA (c:Cf) (b:Brd) (h:Int) (L:List Int):List Int × List Int:=((L.filter (ansB c b h)).map fun k=>(k,ansN c b h k)).foldl (addP c.B) ([],[])
theorem accA_snoc (c:Cf) (b:Brd) (h:Int) (L:List Int) (k:Int):accA c b h (L++[k]) = if ansB c b h k then addP c.B (accA c b h L) (k,ansN c b h k) else accA c b h L:=by
 unfold accA
 rw [List.filter_append,List.map_append,List.foldl_append]
 cases hk:ansB c b h k <;> simp [hk]
def accO (c:Cf) (b:Brd) (h:Int) (l:List Ln):List Int × List Int:=(plcO c b h l).foldl (addP c.B) ((plcA c b h).foldl (addP c.B) ([],[]))
theorem accO_snoc (c:Cf) (b:Brd) (h:Int) (l:List Ln) (x:Ln):accO c b h (l++[x]) = if opnR c b x && decide (x.other = h) then addP c.B (accO c b h l) (x.hall,x.nums.headD 0) else accO c b h l:=by
 unfold accO plcO
 rw [List.filter_append,List.map_append,List.foldl_append]
 cases hk:opnR c b x && decide (x.other = h) <;> simp [hk]
def PairOk (c:Cf) (p:Int × Int):Prop:=(1≤p.1∧p.1≤c.H)∧0≤p.2∧p.2 < c.P
theorem fitsM_rng {c:Cf} {b:Brd} {h x n:Int} (e:fitsM c b h x n = true):0≤n∧n < c.P:=by
 unfold fitsM at e
 split at e
 ·simp only [fitB,Bool.and_eq_true] at e
  exact of_decide_eq_true e.1.1.2
 ·cases e
theorem plcA_ok {c:Cf} (hc:c.Ok) (b:Brd) (h:Int):∀ p∈plcA c b h,PairOk c p:=by
 intro p hp
 unfold plcA at hp
 obtain ⟨k,hk,rfl⟩:=List.mem_map.1 hp
 obtain ⟨hk1,hk2⟩:=List.mem_filter.1 hk
 have h1:=rngH_mem.1 (List.mem_filter.1 hk1).1
 have hr:=hc.rng
 refine ⟨by dsimp only;omega,?_⟩
 dsimp only
 unfold ansB at hk2
 unfold ansN
 split at hk2
 ·rename_i x hx;exact fitsM_rng hk2
 ·cases hk2
theorem plcO_ok {c:Cf} (hc:c.Ok) (b:Brd) (h:Int) (l:List Ln):∀ p∈plcO c b h l,PairOk c p:=by
 intro p hp
 unfold plcO at hp
 obtain ⟨x,hx,rfl⟩:=List.mem_map.1 hp
 obtain ⟨_,hx2⟩:=List.mem_filter.1 hx
 rw [Bool.and_eq_true] at hx2
 have h1:=hx2.1
 simp only [opnR,opnC,Bool.and_eq_true] at h1
 have h3:=cntB_hall h1.1.1
 exact ⟨by dsimp only;omega,fitsM_rng h1.2⟩
theorem addP_ok {c:Cf} (hB:0≤c.B):∀ (l:List (Int × Int)) (a:List Int × List Int),(∀ p∈l,PairOk c p)→(a.1.Nodup∧(∀ x∈a.1,1≤x∧x≤c.H)∧(∀ y∈a.2,0≤y∧y < c.P)∧a.2.length = a.1.length∧(a.1.length:Int)≤c.B+1) →
  ((l.foldl (addP c.B) a).1.Nodup∧(∀ x∈(l.foldl (addP c.B) a).1,1≤x∧x≤c.H)∧(∀ y∈(l.foldl (addP c.B) a).2,0≤y∧y < c.P)∧(l.foldl (addP c.B) a).2.length = (l.foldl (addP c.B) a).1.length∧((l.foldl (addP c.B) a).1.length:Int)≤c.B+1)
 | [],a,_,h=>h
 | p::l,a,hl,h=>by
  rw [List.foldl_cons]
  refine addP_ok hB l _ (fun q hq=>hl q (by simp [hq])) ?_
  have hp:=hl p (by simp)
  unfold addP
  split
  ·rename_i hc
   rw [Bool.and_eq_true] at hc
   have h1:=of_decide_eq_true hc.1
   have h2:p.1 ∉ a.1:=by simpa using hc.2
   obtain ⟨a1,a2,a3,a4,a5⟩:=h
   refine ⟨nodup_snoc.2 ⟨a1,h2⟩,fun x hx=>?_,fun y hy=>?_,by simp [a4],by simp;omega⟩
   ·rcases List.mem_append.1 hx with h | h
    ·exact a2 x h
    ·rw [List.mem_singleton.1 h];exact hp.1
   ·rcases List.mem_append.1 hy with h | h
    ·exact a3 y h
    ·rw [List.mem_singleton.1 h];exact hp.2
  ·exact h
theorem accP_ok {c:Cf} (hc:c.Ok) (b:Brd) (h:Int):(accP c b h).1.Nodup∧(∀ x∈(accP c b h).1,1≤x∧x≤c.H)∧(∀ y∈(accP c b h).2,0≤y∧y < c.P)∧(accP c b h).2.length = (accP c b h).1.length∧((accP c b h).1.length:Int)≤c.B+1:=by
 have hr:=hc.rng
 refine addP_ok hr.2.1 _ _ (fun p hp=>?_) ⟨List.nodup_nil,by simp,by simp,rfl,by simp;omega⟩
 rcases List.mem_append.1 hp with h1 | h1
 ·exact plcA_ok hc b h p h1
 ·exact plcO_ok hc b h _ p h1
set_option maxRecDepth 10000 in
set_option maxHeartbeats 1000000 in
theorem k89 (c:Cf) (hc:c.Ok) (b:Brd) (hb:b.Ok) (h:Int) (hh:1≤h∧h≤c.H):PureC Tryz.prog 89 [stV c b,.int .i64 h] (fun r=>r = .tup [.int .i64 ((secM c b h).getD 0),.bool (secM c b h).isSome]):=by
 have hr:=hc.rng
 refine pureC_of_wp (.l [.x,.x]) mixed ok89 rfl ?_
 unfold c89
 dsimp only [argE]
 refine W.run ?_
 refine W.lp (fun i:Nat=>[(1,.int .i64 h),(2,.ptr 0 0 0),(24,linV b.r),(25,.int .i64 (b.r.length:Int)),(26,.int .i64 (i:Int))]) (fun _=>Hp.put (fun _=>none) 0 { cells:=[stV c b],sz:=1 }) (fun i=>i≤b.r.length∧∀ x∈b.r.take i,(revR c b x && decide (x.hall = h)) = false) (fun i=>b.r.length - i) 0 rfl (HS.refl _) ⟨by omega,by simp⟩ ?_
 rintro i nx ⟨h1,h2⟩ hnx
 by_cases hi:i < b.r.length
 ·have hxo:LnO b.r[i]:=hb.2.2.2.2 _ (List.getElem_mem hi)
  have hrl:=hb.2.2.2.1
  have c1:=k129 c hc b hb b.r[i] hxo
  clear hc
  have hgo:(revR c b b.r[i] && decide (b.r[i].hall = h)) = false→i+1≤b.r.length∧∀ x∈b.r.take (i+1),(revR c b x && decide (x.hall = h)) = false:=fun hq=>⟨by omega,fun x hx=>(mem_take_succ hi hx).elim (h2 x) (fun e=>e ▸ hq)⟩
  have hst:(revR c b b.r[i] && decide (b.r[i].hall = h)) = true→secM c b h = some (b.r[i].nums.headD 0):=fun hq=>by
   have:revS c b h = some (b.r[i].nums.headD 0):=by
    unfold revS
    have hf:b.r.find? (fun x=>revR c b x && decide (x.hall = h)) = some b.r[i]:=by
     rw [List.find?_eq_some_iff_getElem]
     refine ⟨hq,i,hi,rfl,fun j hj=>?_⟩
     have:=h2 b.r[j] (List.mem_take_iff_getElem.2 ⟨j,by omega,rfl⟩)
     rw [this];rfl
    rw [hf];rfl
   rw [secM,this]
  clear h2
  cases hrr:revR c b b.r[i]
  ·rw [hrr] at c1
   have hg:=hgo (by rw [hrr];rfl)
   clear hgo hst
   refine W.run ?_
   exact W.kl (i+1) rfl (HS.skip (HS.refl _) (by simp only [Hp.put];rw [if_neg (by omega)]) _) (by omega) hg (by omega)
  ·rw [hrr] at c1
   have hrc:cntB c.H b.r[i] 4 (c.B+1) false = true:=by
    simp only [revR,revC,Bool.and_eq_true] at hrr
    exact hrr.1.1
   have hcn:=(cntB_hall hrc).2.2.2
   have hl1:0 < b.r[i].nums.length:=by omega
   by_cases he:b.r[i].hall = h
   ·have hg := hst (by rw [hrr, decide_eq_true he]; rfl)
    rw [headD_get hl1] at hg
    clear hgo hst hxo hrr hrc hb
    rw [hg]
    refine W.run ?_
    rfl
   ·have hg := hgo (by rw [hrr, decide_eq_false he]; rfl)
    clear hgo hst
    refine W.run ?_
    exact W.kl (i+1) rfl (HS.skip (HS.refl _) (by simp only [Hp.put];rw [if_neg (by omega)]) _) (by omega) hg (by omega)
 ·have hi2 : i = b.r.length := by omega
  subst hi2
  rw [List.take_length] at h2
  have hrl:=hb.2.2.2.1
  have hrs:revS c b h = none:=by
   unfold revS
   rw [List.find?_eq_none.2 (fun x hx=>by rw [h2 x hx];simp)];rfl
  have hsec:secM c b h = if ((accP c b h).1.length:Int)≤c.B then none else some (valM c.P 0 (newtF c.P (accP c b h).1 (accP c b h).2 [] [1])):=by rw [secM,hrs]
  have c1:=k137 c b h
  clear h2 hrs
  refine W.run ?_
  refine W.rfw (rs:=[]) mixed ok174 rfl YEx.none rfl (fun H t=>∃ q,HS (HPz nx (stV c b) (fun _=>none) (recO 0) (accP c b h) q) H∧InvP nx (nx+81) (accP c b h) q t) ?_ ?_
  ·intro y hy hY
   have hbody:∀ (B0:Hp) (a:List Int × List Int) (q:Nat × Nat × Nat × Nat) (p:Int × Int) (n:Nat) (Kc:V→Hp→Nat→Prop),FreeB nx a q n B0→InvP nx (nx+81) a q n →
     (∀ q' H' n',n≤n'→InvP nx (nx+81) (addP c.B a p) q' n'→FreeB nx (addP c.B a p) q' n' B0→HS (HPz nx (stV c b) B0 (recO 0) (addP c.B a p) q') H'→Kc (.bool true) H' n')→y [.int .i64 p.1,.int .i64 p.2] (HPz nx (stV c b) B0 (recO 0) a q) n Kc:=by
    intro B0 ⟨X,Y⟩ ⟨ix,vx,iy,vy⟩ ⟨px,pn⟩ n Kc hB ⟨i1,i2,i3,i4,i5⟩ hK
    rw [hy]
    refine ⟨rfl,?_⟩
    clear hy hY hc hb hsec c1
    dsimp only at i1 i2 i3 hK ⊢
    cases X with
    | nil =>
     dsimp only [HPz,putL]
     have c1:PureC Tryz.prog 138 [.nils,.int .i64 px] (fun r=>r = .bool false):=by simpa using k138n px
     refine W.run ?_
     refine W.kasg ?_
     have hadd:addP c.B ([],Y) (px,pn) = ([px],Y++[pn]):=by simp [addP,hr.2.1]
     have hY:Y = []:=List.length_eq_zero_iff.1 i1
     subst hY
     rw [hadd] at hK
     refine W.run ?_
     refine W.kround (by simp (disch:=omega) only [put_same,put_ne,ne_eq]) ?_
     refine hK (n+128+24,0,n+128+56,0) _ _ (by omega) ⟨rfl,by simp,fun _=>⟨by dsimp only;omega,by dsimp only;omega,by dsimp only;omega⟩,by omega,i5⟩ (fun j hj=>by obtain ⟨g1,g2,g3⟩:=hB j hj;exact ⟨g1,by omega,fun _=>by dsimp only;omega⟩) ?_
     dsimp only [HPz]
     exact HS.p (HS.p (HS.p (HS.p (HS.p (HS.p (HS.ag fun j hj=>by obtain ⟨g1,g2,g3⟩:=hB j hj;simp only [ne_eq,reduceCtorEq,not_false_eq_true,not_true_eq_false,forall_const,false_implies] at g3;simp (disch:=omega) only [put_ne,ne_eq]))))))
    | cons x X =>
     obtain ⟨j1,j2,j3⟩:=i3 (by simp)
     dsimp only [HPz,putL]
     have c1:=k138 (x::X) (X.length+1) rfl px (by simp at i2 ⊢;omega)
     refine W.run ?_
     refine W.kasg2 (by rw [put_ne (by omega),put_ne (by omega),put_same]) (by rw [put_swap (show nx+48 < iy by omega),put_swap (show nx+48 < ix by omega),put2_eq,put2_eq,put_put]) ?_
     have hlx:(x::X).length = X.length+1:=rfl
     by_cases hle:((X.length+1:Nat):Int)≤c.B
     ·by_cases hin:px∈x::X
      ·have hadd : addP c.B (x :: X, Y) (px, pn) = (x :: X, Y) := by simp only [addP, decide_eq_true hin]; simp
       rw [hadd] at hK
       rw [decide_eq_true hin] at c1
       refine W.run ?_
       refine W.kround (by simp (disch:=omega) only [put_same,put_ne,ne_eq]) ?_
       refine hK (ix,vx,iy,vy) _ _ (by omega) ⟨i1,i2,fun _=>⟨j1,j2,by dsimp only;omega⟩,by omega,i5⟩ (fun j hj=>by obtain ⟨g1,g2,g3⟩:=hB j hj;have:=g3 (by simp);exact ⟨g1,by omega,fun _=>this⟩) ?_
       dsimp only [HPz]
       exact HS.p (HS.p (HS.p (HS.p (HS.p (HS.p (HS.ag fun j hj=>by obtain ⟨g1,g2,g3⟩:=hB j hj;simp only [ne_eq,reduceCtorEq,not_false_eq_true,not_true_eq_false,forall_const,false_implies] at g3;simp (disch:=omega) only [put_ne,ne_eq]))))))
      ·have hadd : addP c.B (x :: X, Y) (px, pn) = (x :: (X ++ [px]), Y ++ [pn]) := by simp only [addP, decide_eq_false hin, hlx, decide_eq_true hle]; simp
       rw [hadd] at hK
       rw [decide_eq_false hin] at c1
       refine W.run ?_
       refine W.kround (by simp (disch:=omega) only [put_same,put_ne,ne_eq]) ?_
       refine hK (ix,vx+1,iy,vy+1) _ _ (by omega) ⟨by simp at i1 ⊢;omega,by dsimp only;simp at i2 ⊢;omega,fun _=>⟨j1,j2,by dsimp only;omega⟩,by omega,i5⟩ (fun j hj=>by obtain ⟨g1,g2,g3⟩:=hB j hj;have:=g3 (by simp);exact ⟨g1,by omega,fun _=>this⟩) ?_
       dsimp only [HPz]
       rw [show (X++[px]).length = X.length+1 by simp,show (x::(X++[px])).map (V.int .i64) = (x::X).map (V.int .i64)++[.int .i64 px] by simp,show (Y++[pn]).map (V.int .i64) = Y.map (V.int .i64)++[.int .i64 pn] by simp]
       exact HS.p (HS.p (HS.p (HS.p (HS.p (HS.p (HS.ag fun j hj=>by obtain ⟨g1,g2,g3⟩:=hB j hj;simp only [ne_eq,reduceCtorEq,not_false_eq_true,not_true_eq_false,forall_const,false_implies] at g3;simp (disch:=omega) only [put_ne,ne_eq]))))))
     ·have hadd : addP c.B (x :: X, Y) (px, pn) = (x :: X, Y) := by simp only [addP, hlx, decide_eq_false hle]; simp
      rw [hadd] at hK
      refine W.run ?_
      refine W.kround (by simp (disch:=omega) only [put_same,put_ne,ne_eq]) ?_
      refine hK (ix,vx,iy,vy) _ _ (by omega) ⟨i1,i2,fun _=>⟨j1,j2,by dsimp only;omega⟩,by omega,i5⟩ (fun j hj=>by obtain ⟨g1,g2,g3⟩:=hB j hj;have:=g3 (by simp);exact ⟨g1,by omega,fun _=>this⟩) ?_
      dsimp only [HPz]
      exact HS.p (HS.p (HS.p (HS.p (HS.p (HS.p (HS.ag fun j hj=>by obtain ⟨g1,g2,g3⟩:=hB j hj;simp only [ne_eq,reduceCtorEq,not_false_eq_true,not_true_eq_false,forall_const,false_implies] at g3;simp (disch:=omega) only [put_ne,ne_eq]))))))
   clear hy hsec c1
   have c1:=k77 c b 175 [] [.fp [.int .i64 h] 0] (by simp) (by simp [V.atom])
   have hit:=it126 c hc b 175 [] [.fp [.int .i64 h] 0] (by simp) (by simp [V.atom]) (fun k=>decide (k≠h)) (fun k hk=>k175 h k)
   have hLlen:=hallsL_len hc fun k=>decide (k≠h)
   have hLm:∀ k∈hallsL c (fun k=>decide (k≠h)),1≤k∧k≤c.H:=fun k hk=>by have:=rngH_mem.1 (List.mem_filter.1 hk).1;omega
   have hacc:accA c b h (hallsL c fun k=>decide (k≠h)) = accO c b h []:=rfl
   have haccO:accO c b h b.r = accP c b h:=by unfold accO accP plcL;rw [List.foldl_append]
   generalize hallsL c (fun k=>decide (k≠h)) = L at hit hLlen hLm hacc
   unfold c174
   dsimp only [argE,List.nil_append,List.cons_append]
   refine W.run ?_
   refine W.rfi2 hit hY rfl (fun vs hvs=>?_) (fun x:(List Int × List Int) × (Nat × Nat × Nat × Nat)=>HPz nx (stV c b) (Hp.put (fun _=>none) (nx+49) { cells:=[.yld (nx+48)],sz:=1 }) (recO 0) x.1 x.2)
    (fun i x n=>x.1 = accA c b h (L.take i)∧InvP nx (nx+81) x.1 x.2 n) (fun i x n n' hx hn=>⟨hx.1,hx.2.mono hn⟩) (([],[]),(0,0,0,0)) ?_ ⟨rfl,rfl,by simp,fun h=>absurd rfl h,by omega,by omega⟩ ?_ ?_ ?_
   ·obtain ⟨i,hi,rfl⟩:=List.getElem_of_mem hvs
    simp [itemsI]
   ·dsimp only [HPz]
    exact HS.p (HS.p (HS.p (HS.p (HS.p (HS.emp _)))))
   ·rintro i ⟨a,q⟩ n ⟨hx,hI⟩
    dsimp only at hI ⊢
    rw [HPz_at hI (by omega) (by omega),put_ne (by omega)]
   ·rintro i vs ⟨a,q⟩ n hi ⟨hx,hI⟩ hn
    dsimp only at hx hI hi ⊢
    obtain ⟨hi1,-⟩:=List.getElem?_eq_some_iff.1 hi
    rw [show (itemsI L).length = L.length by simp [itemsI]] at hi1
    rw [itemsI_get hi1,Option.some.injEq] at hi
    subst hi
    dsimp only [putL]
    have hkr:=hLm _ (List.getElem_mem hi1)
    have c2:=k120 c hc b hb h L[i] (by omega) (by omega)
    have hsn:=accA_snoc c b h (L.take i) L[i]
    rw [List.take_append_getElem hi1,← hx] at hsn
    clear hit hLm hacc
    refine W.run ?_
    refine W.kasg ?_
    cases hr2:ansB c b h L[i]
    ·rw [hr2] at c2 hsn
     refine W.run ?_
     exact W.kitr2 (a,q) (HS.refl _) ⟨hsn.symm,hI.mono (by omega)⟩ (by omega)
    ·rw [hr2,if_pos rfl] at hsn
     rw [hr2] at c2
     refine W.run ?_
     refine W.oprS (load_box rfl (by rw [put_ne (by omega),HPz_at hI (by omega) (by omega),put_same])) ?_
     refine W.run ?_
     refine W.yl (Ys.put_same _ _ _) ?_
     rw [HPz_put (by omega) hI.apart]
     refine hbody _ a q (L[i],ansN c b h L[i]) _ _ ?_ (hI.mono (by omega)) ?_
     ·intro j hj
      have hjj:j = nx+49∨j = nx+81:=by
       by_cases e1:j = nx+81
       ·exact .inr e1
       ·by_cases e2:j = nx+49
        ·exact .inl e2
        ·rw [put_ne e1,put_ne e2] at hj;exact absurd rfl hj
      exact ⟨by omega,by omega,fun h=>by have:=hI.2.2.1 h;omega⟩
     ·intro q' H' n' hn' hI' _ hH'
      refine W.run ?_
      rw [← HPz_put (by omega) hI'.apart] at hH'
      exact W.kitr2 (addP c.B a (L[i],ansN c b h L[i]),q') hH' ⟨hsn.symm,hI'.mono (by omega)⟩ (by omega)
   ·rintro ⟨a,q⟩ n ⟨hx,hI⟩ hn
    rw [show (itemsI L).length = L.length by simp [itemsI],List.take_length,hacc] at hx
    dsimp only at hx hI ⊢
    clear hit hLm hacc c1
    have hrl:=hb.2.2.2.1
    refine W.run ?_
    refine W.loop (fun z:Nat × (Nat × Nat × Nat × Nat) × Nat=>⟨[(1,.fp [stV c b] 0),(2,.fp [.int .i64 h] 0),(3,.ptr (nx+49) 0 0),(34,linV b.r),(35,.int .i64 (b.r.length:Int)),(36,.int .i64 (z.1:Int))],HPz nx (stV c b) (Hp.put (fun _=>none) (nx+49) { cells:=[.yld (nx+48)],sz:=1 }) (recO 0) (accO c b h (b.r.take z.1)) z.2.1,z.2.2⟩)
     (fun z=>z.1≤b.r.length∧InvP nx (nx+81) (accO c b h (b.r.take z.1)) z.2.1 z.2.2) (fun z=>b.r.length - z.1) (0,q,n+56) ⟨by dsimp only;omega,by dsimp only;rw [hx] at hI;exact hI.mono (by omega)⟩ ?_ rfl (by rw [hx];exact HS.refl _) rfl
    rintro ⟨i,q1,n1⟩ ⟨hi1,hI1⟩
    dsimp only at hi1 hI1 ⊢
    have hnn:=hI1.2.2.2
    by_cases hlt:i < b.r.length
    ·have hxo:LnO b.r[i]:=hb.2.2.2.2 _ (List.getElem_mem hlt)
     have c2:=k130 c hc b hb b.r[i] hxo
     have hsn:=accO_snoc c b h (b.r.take i) b.r[i]
     rw [List.take_append_getElem hlt] at hsn
     clear hc hb hx hI
     generalize accO c b h (b.r.take i) = a1 at hI1 hsn
     cases ho:opnR c b b.r[i]
     ·rw [ho] at c2 hsn
      simp only [Bool.false_and,Bool.false_eq_true,if_false] at hsn
      refine W.run ?_
      refine W.kl0 _ (HS.skip (HS.refl _) (by rw [HPz_at' (by omega) (fun h=>by have:=hI1.2.2.1 h;omega),put_ne (by omega)]) _) ⟨(i+1,q1,_),⟨by dsimp only;omega,?_⟩,by dsimp only;rw [hsn];rfl,by dsimp only;omega⟩ Nat.zero_lt_one
      dsimp only;rw [hsn];exact hI1.mono (by omega)
     ·rw [ho] at c2 hsn
      have hl1:0 < b.r[i].nums.length:=by
       simp only [opnR,opnC,Bool.and_eq_true] at ho
       have:=(cntB_hall ho.1.1).2.2.2
       omega
      by_cases he:b.r[i].other = h
      ·rw [decide_eq_true he,Bool.true_and,if_pos rfl,headD_get hl1] at hsn
       clear hxo ho
       refine W.run ?_
       refine W.oprS (load_box rfl (by rw [put_ne (by omega),HPz_at hI1 (by omega) (by omega),put_same])) ?_
       refine W.run ?_
       refine W.yl (Ys.put_same _ _ _) ?_
       have hap:a1.1≠[]→n1+8+16≠q1.1∧n1+8+16≠q1.2.2.1:=fun h=>by have:=hI1.2.2.1 h;omega
       rw [HPz_put (by have:=hI1.2.2.2;omega) hap]
       refine hbody _ a1 q1 (b.r[i].hall,b.r[i].nums[0]) _ _ ?_ (hI1.mono (by omega)) ?_
       ·intro j hj
        have h9:=hI1.2.2.2
        have hjj:j = nx+49∨j = n1+8+16:=by
         by_cases e1:j = n1+8+16
         ·exact .inr e1
         ·by_cases e2:j = nx+49
          ·exact .inl e2
          ·rw [put_ne e1,put_ne e2] at hj;exact absurd rfl hj
        exact ⟨by omega,by omega,fun h=>by have:=hI1.2.2.1 h;omega⟩
       ·intro q' H' n' hn' hI' hB' hH'
        refine W.run ?_
        have hap':(addP c.B a1 (b.r[i].hall,b.r[i].nums[0])).1≠[]→n1+8+16≠q'.1∧n1+8+16≠q'.2.2.1:=fun h=>(hB' (n1+8+16) (by rw [put_same];simp)).2.2 h
        rw [← HPz_put (by have:=hI1.2.2.2;omega) hap'] at hH'
        refine W.kl0 _ (HS.trans (HS.skip (HS.refl _) ?_ _) hH') ⟨(i+1,q',_),⟨by dsimp only;omega,?_⟩,by dsimp only;rw [hsn];rfl,by dsimp only;omega⟩ Nat.zero_lt_one
        rotate_left
        ·dsimp only;rw [hsn];exact hI'.mono (by omega)
        rw [HPz_at' (by have:=hI1.2.2.2;omega) hap',put_ne (by have:=hI1.2.2.2;omega)]
      ·rw [decide_eq_false he] at hsn
       simp only [Bool.and_false,Bool.false_eq_true,if_false] at hsn
       refine W.run ?_
       refine W.kl0 _ (HS.skip (HS.refl _) (by rw [HPz_at' (by omega) (fun h=>by have:=hI1.2.2.1 h;omega),put_ne (by omega)]) _) ⟨(i+1,q1,_),⟨by dsimp only;omega,?_⟩,by dsimp only;rw [hsn];rfl,by dsimp only;omega⟩ Nat.zero_lt_one
       dsimp only;rw [hsn];exact hI1.mono (by omega)
    ·have : i = b.r.length := by omega
     subst this
     rw [List.take_length,haccO] at hI1
     rw [List.take_length,haccO]
     refine W.run ?_
     refine W.retRn rfl (HS.refl _) ⟨q1,?_,hI1.mono (by dsimp only;omega)⟩
     rw [← HPz_put (by omega) (fun h=>by have:=hI1.2.2.1 h;omega)]
     exact HS.skip (HS.refl _) (by rw [HPz_at' (by omega) (fun h=>by have:=hI1.2.2.1 h;omega)]) _
  ·rintro H' t ⟨q,hH,hI⟩ ht
   refine kRf0 (hH _ _ (HPz_rec hI)) ?_
   have hok:=accP_ok hc b h
   generalize accP c b h = a at hok hsec hH hI
   obtain ⟨X,Y⟩:=a
   obtain ⟨ix,vx,iy,vy⟩:=q
   obtain ⟨i1,i2,i3,i4,i5⟩:=hI
   dsimp only at i1 i2 i3 hok hsec
   refine W.kblk ?_
   clear c1 hb
   cases X with
   | nil =>
    dsimp only [HPz] at hH
    refine W.kseqW _ (((Hp.put (fun _=>none) 0 { cells:=[stV c b],sz:=1 }).put (nx+8) { cells:=[.nils],sz:=1 }).put (nx+8+8) { cells:=[.nils],sz:=1 }) (fun _ _ h=>h) (HS.del (HS.trans (HS.skip (HS.refl _) (by simp (disch:=omega) only [put_ne,ne_eq]) _) hH) (by simp (disch:=omega) only [put_ne,ne_eq])) ?_
    have hs:secM c b h = none:=by rw [hsec,if_pos (by simpa using hr.2.1)]
    clear hc hsec hok
    rw [hs]
    have hle:(0:Int)≤c.B:=hr.2.1
    refine W.run ?_
    rfl
   | cons x X =>
    obtain ⟨j1,j2,j3⟩:=i3 (by simp)
    dsimp only [HPz] at hH
    refine W.kseqW _ (((((Hp.put (fun _=>none) 0 { cells:=[stV c b],sz:=1 }).put (nx+8) { cells:=[.ref ix vx 0 (X.length+1)],sz:=1 }).put (nx+8+8) { cells:=[.ref iy vy 0 (X.length+1)],sz:=1 }).put ix { cells:=(x::X).map (V.int .i64),sz:=1,ver:=vx }).put iy { cells:=Y.map (V.int .i64),sz:=1,ver:=vy }) (fun _ _ h=>h) (HS.del (HS.trans (HS.p (HS.p (HS.p (HS.p (HS.p (HS.emp _)))))) hH) (by simp (disch:=omega) only [put_ne,ne_eq])) ?_
    have hlx:(x::X).length = X.length+1:=rfl
    by_cases hle:((X.length+1:Nat):Int)≤c.B
    ·have hs : secM c b h = none := by rw [hsec, hlx, if_pos hle]
     clear hc hsec hok
     rw [hs]
     refine W.run ?_
     rfl
    ·have hs : secM c b h = some (valM c.P 0 (newtF c.P (x :: X) Y [] [1])) := by rw [hsec, hlx, if_neg hle]
     rw [hs]
     obtain ⟨o1,o2,o3,o4,o5⟩:=hok
     have hg:=hc.1
     have hP:=hg.hP
     obtain ⟨g,hg1,c1⟩:=k97 c.P hg.hP hg.pP
     have hX:InF c.P (x::X):=fun z hz=>by have:=o2 z hz;omega
     have hY:InF c.P Y:=o3
     have c2:=k98 c.P g hg.pP (by omega) (x::X) Y o4.symm (by simp) (by rw [hlx] at o5 ⊢;omega) hX hY o1
     have hnt:=newtF_all hg.pP hg.hP.1 (X:=x::X) (S:=Y) o4.symm hX hY o1
     have c3:=k139 c.P g 0 (by omega) (newtF c.P (x::X) Y [] [1]) (by have:=hnt.2.1;rw [hlx] at this o5;omega) hnt.1 (newtF_norm _ _ _ _ (fun h=>by simp at h)) (by omega)
     have hYl:Y.length = X.length+1:=o4
     rw [show slI (x::X) = V.sl ((x::X).map (V.int .i64)) (X.length+1) from rfl,show slI Y = V.sl (Y.map (V.int .i64)) (X.length+1) from by show V.sl _ _ = _;rw [hYl]] at c2
     clear hc hsec hnt hX hY o1 o2 o3 hg
     refine W.run ?_
     rfl
end Go.Dp
