import Derived.Test.YtlbjgnkjicifhaaGreatDwC2
import Derived.Test.YtlbjgnkjicifhaaGreatDwD1
import Derived.Test.YtlbjgnkjicifhaaGreatDpIt
import Derived.Test.YtlbjgnkjicifhaaGreatDwB6
namespace Go.Dp
open Go.RowKit Go.Proofs
attribute [local irreducible] wp wpOps wpOp1 CallW CallT kSeq kBlk kLoop kReg retP retR kAsg kRound kRf kCut kItr
set_option linter.unusedVariables false
set_option linter.unusedSimpArgs false
@[go_sem] theorem toNat_cast {z:Int} (h:0≤z):((z.toNat:Nat):Int) = z:=Int.toNat_of_nonneg h
section
variable {c:Cf} {b:Brd} {i n m:Nat}
@[go_sem] theorem stB_len:(stB c b).length = 622:=stC_len rfl
@[go_sem] theorem stB_first (h:i < 17):(stB c b)[10+i]? = some (.int .i64 (b.first c i)):=stC_gF rfl h
@[go_sem] theorem stB_deal (h:i < 17):(stB c b)[27+i]? = some (optV (b.deal c i)):=stC_gD rfl h
@[go_sem] theorem stB_compl (h:n < 17∧m < 17):(stB c b)[44+n * 17+m]? = some (.bool (b.compl c n m)):=by
 have:=stC_gC (hd:=hdC c b) (F:=fun i=>.int .i64 (b.first c i)) (D:=fun i=>optV (b.deal c i)) (C:=fun i=>.bool (b.compl c ((i / 17:Nat):Int) ((i % 17:Nat):Int))) (A:=fun i=>.int .i64 (b.ans c ((i / 17:Nat):Int) ((i % 17:Nat):Int))) rfl h
 rw [stB,this,show (n * 17+m) / 17 = n by omega,show (n * 17+m) % 17 = m by omega]
@[go_sem] theorem stB_ans (h:n < 17∧m < 17):(stB c b)[333+n * 17+m]? = some (.int .i64 (b.ans c n m)):=by
 have:=stC_gA (hd:=hdC c b) (F:=fun i=>.int .i64 (b.first c i)) (D:=fun i=>optV (b.deal c i)) (C:=fun i=>.bool (b.compl c ((i / 17:Nat):Int) ((i % 17:Nat):Int))) (A:=fun i=>.int .i64 (b.ans c ((i / 17:Nat):Int) ((i % 17:Nat):Int))) rfl h
 rw [stB,this,show (n * 17+m) / 17 = n by omega,show (n * 17+m) % 17 = m by omega]
@[go_sem] theorem stB_1:(stB c b)[1]? = some (.int .i64 c.P):=rfl
@[go_sem] theorem stB_3:(stB c b)[3]? = some (.int .i64 c.H):=rfl
@[go_sem] theorem stB_4:(stB c b)[4]? = some (.int .i64 c.B):=rfl
@[go_sem] theorem stB_6:(stB c b)[6]? = some (linV b.d):=rfl
@[go_sem] theorem stB_7:(stB c b)[7]? = some (linV b.c):=rfl
@[go_sem] theorem stB_8:(stB c b)[8]? = some (linV b.a):=rfl
@[go_sem] theorem stB_9:(stB c b)[9]? = some (linV b.r):=rfl
@[go_sem] theorem stB_t3:List.take 3 (stB c b) = [.int .i64 c.R,.int .i64 c.P,.int .i64 c.G]:=rfl
@[go_sem] theorem stB_t6:List.take 6 (stB c b) = [.int .i64 c.R,.int .i64 c.P,.int .i64 c.G,.int .i64 c.H,.int .i64 c.B,.int .i64 c.K]:=rfl
@[go_sem] theorem linC_3 {l:List Ln} (h:i < l.length):(linC l)[i * 4+3]? = some (slI l[i].nums):=by
 have:=linC_get h
 have e:((linC l).drop (i * 4)).take 4 = lnK l[i]:=this
 have:(((linC l).drop (i * 4)).take 4)[3]? = some (slI l[i].nums):=by rw [e];rfl
 rw [List.getElem?_take,if_pos (by omega),List.getElem?_drop] at this
 exact this
end
theorem find_mem {q:Ln→Bool} {l:List Ln} {x:Ln} (h:l.find? q = some x):x∈l:=List.mem_of_find?_eq_some h
theorem deal_ok {c:Cf} {b:Brd} (hb:b.Ok) {h:Int} {A:List Int} (e:b.deal c h = some A):(A.length:Int) = c.B+1∧(∀ n∈A,B64 n)∧A.all (hasB c.R c.P) = true∧A.length < 2 ^ 20:=by
 refine ⟨dealL_len e,?_⟩
 unfold Brd.deal dealL at e
 cases hf:b.d.find? (qDeal c h) with
 | none=>rw [hf] at e;cases e
 | some x =>
  rw [hf] at e
  simp only at e
  split at e
  ·rename_i h2
   cases e
   have:=hb.1.2 x (find_mem hf)
   exact ⟨this.2,h2,this.1⟩
  ·cases e
theorem fstI_get {q:Ln→Bool} {l:List Ln} (h:0≤fstI q l):∃ hi:(fstI q l).toNat < l.length,l.find? q = some (l[(fstI q l).toNat]'hi):=by
 unfold fstI at h ⊢
 cases hf:l.findIdx? q with
 | none=>rw [hf] at h;simp at h
 | some i =>
  obtain ⟨h1,h2,h3⟩:=List.findIdx?_eq_some_iff_getElem.1 hf
  refine ⟨h1,?_⟩
  show l.find? q = some l[i]
  rw [List.find?_eq_some_iff_getElem]
  exact ⟨h2,i,h1,rfl,fun j hj=>by simpa using h3 j hj⟩
def fitsM (c:Cf) (b:Brd) (h x n:Int):Bool:=match b.deal c h with
 | some A=>fitB c.R c.P c.G A x n
 | none=>false
def ansL (c:Cf) (b:Brd) (h k:Int):Option Ln:=b.a.find? (qAns c h k)
def ansN (c:Cf) (b:Brd) (h k:Int):Int:=match ansL c b h k with
 | some x=>x.nums.headD 0
 | none=>0
def ansB (c:Cf) (b:Brd) (h k:Int):Bool:=match ansL c b h k with
 | some x=>fitsM c b h k (x.nums.headD 0)
 | none=>false
def rngH (n:Nat):List Int:=(List.range n).map fun i:Nat=>(i:Int)+1
def isInM (c:Cf) (b:Brd) (h:Int):Bool:=(b.deal c h).isSome && (rngH c.H.toNat).all fun j=>!b.compl c j h || ansB c b h j
theorem Cf.Ok.rng {c:Cf} (h:c.Ok):(2≤c.H∧c.H≤16∧c.H < c.P)∧(0≤c.B∧c.B < c.H):=⟨h.2.1,h.2.2.1⟩
theorem k79 (c:Cf) (hc:c.Ok) (b:Brd) (hb:b.Ok) (h:Int) (hh:0≤h∧h≤16):PureC Tryz.prog 79 [stV c b,.int .i64 h] (fun r=>r = .bool (b.deal c h).isSome):=by
 have hr:=hc.rng
 have h0:∀ A,b.deal c h = some A→0 < A.length:=fun A e=>by have:=(deal_ok hb e).1;omega
 refine pureC_of_wp .x mixed ok79 rfl ?_
 unfold c79
 dsimp only [argE]
 cases hd:b.deal c h with
 | none =>
  refine W.run ?_
  rw [hd]
  refine W.run ?_
  rfl
 | some A =>
  have:=h0 A hd
  refine W.run ?_
  rw [hd]
  refine W.run ?_
  rfl
set_option maxRecDepth 10000 in
theorem k81 (c:Cf) (hc:c.Ok) (b:Brd) (hb:b.Ok) (h x n:Int) (hh:0≤h∧h≤16):PureC Tryz.prog 81 [stV c b,.int .i64 h,.int .i64 x,.int .i64 n] (fun r=>r = .bool (fitsM c b h x n)):=by
 have hr:=hc.rng
 have h0:∀ A,b.deal c h = some A→0 < A.length∧PureC Tryz.prog 128 [grp c.R c.P c.G,slI A,.int .i64 x,.int .i64 n] (fun r=>r = .bool (fitB c.R c.P c.G A x n)):=fun A e=>by
  have:=deal_ok hb e
  exact ⟨by omega,k128 hc.1 A _ rfl (by omega) this.2.1 x n⟩
 refine pureC_of_wp .x mixed ok81 rfl ?_
 unfold c81 fitsM
 dsimp only [argE]
 cases hd:b.deal c h with
 | none =>
  refine W.run ?_
  rw [hd]
  refine W.run ?_
  rfl
 | some A =>
  obtain ⟨h1,h2⟩:=h0 A hd
  clear h0
  refine W.run ?_
  rw [hd]
  refine W.run ?_
  rw [hd]
  refine W.run ?_
  rfl
theorem ans_len {c:Cf} {h k:Int} {x:Ln} (e:qAns c h k x = true):x.nums.length = 1:=by
 simp only [qAns,Bool.and_eq_true] at e
 have:=(cntB_hall e.1.1).2.2.2
 omega
set_option maxRecDepth 10000 in
theorem k120 (c:Cf) (hc:c.Ok) (b:Brd) (hb:b.Ok) (h k:Int) (hh:0≤h∧h≤16) (hk:0≤k∧k≤16):PureC Tryz.prog 120 [stV c b,.int .i64 h,.int .i64 k] (fun r=>r = .tup [.int .i64 (ansN c b h k),.bool (ansB c b h k)]):=by
 have c1:=fun n=>k81 c hc b hb h k n hh
 have hbl:=hb.2.2.1.1
 refine pureC_of_wp (.l [.x,.x]) mixed ok120 rfl ?_
 unfold c120 ansN ansB ansL
 dsimp only [argE]
 by_cases hneg:b.ans c h k < 0
 ·rw [(fstI_find _ _).1 hneg]
  refine W.run ?_
  rfl
 ·obtain ⟨h1, h2⟩ := fstI_get (q := qAns c h k) (l := b.a) (by unfold Brd.ans at hneg; omega)
  have h3:=ans_len (List.find?_some h2)
  rw [h2]
  change (b.ans c h k).toNat < b.a.length at h1
  have h4:∃ n,b.a[(b.ans c h k).toNat].nums = [n]:=by
   cases hn:b.a[(b.ans c h k).toNat].nums with
   | nil=>have h3':b.a[(b.ans c h k).toNat].nums.length = 1:=h3;rw [hn] at h3';simp at h3'
   | cons n l =>
    cases l with
    | nil=>exact ⟨n,rfl⟩
    | cons _ _=>have h3':b.a[(b.ans c h k).toNat].nums.length = 1:=h3;rw [hn] at h3';simp at h3'
  obtain ⟨n,hn⟩:=h4
  have c1':=c1 n
  clear c1
  refine W.run ?_
  rw [hn]
  refine W.run ?_
  have e:b.a[(fstI (qAns c h k) b.a).toNat].nums = [n]:=hn
  simp only [e]
  rfl
theorem rngH_len (n:Nat):(rngH n).length = n:=by simp [rngH]
theorem rngH_mem {n:Nat} {x:Int}:x∈rngH n↔1≤x∧x≤n:=by
 simp only [rngH,List.mem_map,List.mem_range]
 constructor
 ·rintro ⟨i,h1,rfl⟩;omega
 ·rintro ⟨h1,h2⟩;exact ⟨(x - 1).toNat,by omega,by omega⟩
theorem rngH_succ (n:Nat):rngH (n+1) = rngH n++[(n:Int)+1]:=by simp [rngH,List.range_succ]
theorem rngH_all {n:Nat} {q:Int→Bool}:(rngH n).all q = true↔∀ k:Nat,k < n→q ((k:Int)+1) = true:=by
 rw [List.all_eq_true]
 constructor
 ·intro h k hk;exact h _ (rngH_mem.2 (by omega))
 ·intro h x hx
  have:=rngH_mem.1 hx
  have h2:=h (x - 1).toNat (by omega)
  rw [show (((x - 1).toNat:Nat):Int)+1 = x by omega] at h2;exact h2
set_option maxRecDepth 10000 in
theorem k74 (c:Cf) (hc:c.Ok) (b:Brd) (hb:b.Ok) (h:Int) (hh:0≤h∧h≤16):PureC Tryz.prog 74 [stV c b,.int .i64 h] (fun r=>r = .bool (isInM c b h)):=by
 have hr:=hc.rng
 have h0:∀ A,b.deal c h = some A→0 < A.length:=fun A e=>by have:=(deal_ok hb e).1;omega
 have c1:=fun k hk=>k120 c hc b hb h k hh hk
 refine pureC_of_wp .x mixed ok74 rfl ?_
 unfold c74 isInM
 dsimp only [argE]
 cases hd:b.deal c h with
 | none =>
  refine W.run ?_
  rw [hd]
  refine W.run ?_
  rfl
 | some A =>
  have h0':=h0 A hd
  clear h0
  refine W.run ?_
  rw [hd]
  refine W.run ?_
  refine W.lp (fun k:Nat=>[(0,stV c b),(1,.int .i64 h),(5,.int .i64 ((k:Int)+1))]) (fun _ _=>none) (fun k=>k≤c.H.toNat∧∀ j:Nat,j < k→(!b.compl c ((j:Int)+1) h || ansB c b h ((j:Int)+1)) = true) (fun k=>c.H.toNat - k) 0 rfl (HS.refl _) ⟨by omega,fun j hj=>by omega⟩ ?_
  rintro k nx ⟨h1,h2⟩ hnx
  by_cases hlt:k < c.H.toNat
  ·have c2 := c1 ((k : Int) + 1) (by omega)
   clear c1
   cases hq:(!b.compl c ((k:Int)+1) h || ansB c b h ((k:Int)+1))
   ·have hall:((rngH c.H.toNat).all fun j=>!b.compl c j h || ansB c b h j) = false:=by
     rw [Bool.eq_false_iff]
     intro e
     have:=rngH_all.1 e k hlt
     rw [hq] at this;cases this
    rw [hall]
    rw [Bool.or_eq_false_iff] at hq
    have hq1:b.compl c ((k:Int)+1) h = true:=by simpa using hq.1
    have hq2:=hq.2
    clear h2 hq
    refine W.run ?_
    rw [hq1,hq2]
    refine W.run ?_
    rfl
   ·have hn:∀ j:Nat,j < k+1→(!b.compl c ((j:Int)+1) h || ansB c b h ((j:Int)+1)) = true:=fun j hj=>by
     by_cases e:j = k
     ·rw [e];exact hq
     ·exact h2 j (by omega)
    clear h2
    rw [Bool.or_eq_true] at hq
    cases hb1:b.compl c ((k:Int)+1) h
    ·refine W.run ?_
     rw [hb1]
     refine W.run ?_
     exact W.kl (k+1) rfl (HS.refl _) (by omega) ⟨by omega,hn⟩ (by omega)
    ·have hb2 : ansB c b h ((k : Int) + 1) = true := by rw [hb1] at hq; simpa using hq
     refine W.run ?_
     rw [hb1,hb2]
     refine W.run ?_
     exact W.kl (k+1) rfl (HS.refl _) (by omega) ⟨by omega,hn⟩ (by omega)
  ·have hk : k = c.H.toNat := by omega
   subst hk
   have hall:((rngH c.H.toNat).all fun j=>!b.compl c j h || ansB c b h j) = true:=rngH_all.2 h2
   rw [hall]
   clear h2
   refine W.run ?_
   rfl
end Go.Dp
namespace Go.Dp
open Go.RowKit Go.Proofs
attribute [local irreducible] wp wpOps wpOp1 CallW CallT kSeq kBlk kLoop kReg retP retR kAsg kRound kRf kCut kItr
set_option linter.unusedVariables false
set_option linter.unusedSimpArgs false
theorem k77 (c:Cf) (b:Brd) (g:FuncId) (fs cs:List V) (hf:∀ v∈fs,v.atom = true) (hc:∀ v∈cs,v.atom = true):PureC Tryz.prog 77 [stV c b,.clo (.func g) fs cs] (fun r=>r = .clo (.func 126) [] [.fp [stV c b] 0,.fp [.clo (.func g) fs cs] 0]):=by
 refine pureC_of_wp .x mixed ok77 rfl ?_
 unfold c77
 dsimp only [argE]
 refine W.run ?_
 rfl
def hallsL (c:Cf) (p:Int→Bool):List Int:=(rngH c.H.toNat).filter p
theorem hallsL_get {c:Cf} {p:Int→Bool} {k:Nat} (hk:k < c.H.toNat) (hp:p ((k:Int)+1) = true):(hallsL c p)[((rngH k).filter p).length]? = some ((k:Int)+1):=by
 have h:∀ n,k < n→∃ t,rngH n = rngH k++((k:Int)+1)::t:=by
  intro n
  induction n with
  | zero=>intro h;omega
  | succ n ih =>
   intro h
   by_cases e:k = n
   ·subst e;exact ⟨[],rngH_succ k⟩
   ·obtain ⟨t, ht⟩ := ih (by omega)
    exact ⟨t++[(n:Int)+1],by rw [rngH_succ,ht];simp⟩
 obtain ⟨t,ht⟩:=h _ hk
 unfold hallsL
 rw [ht,List.filter_append,List.filter_cons,if_pos hp,List.getElem?_append_right (by omega)]
 simp
def itemsI (l:List Int):List (List V):=l.map fun h=>[V.int .i64 h]
set_option maxRecDepth 10000 in
theorem it126 (c:Cf) (hc:c.Ok) (b:Brd) (g:FuncId) (fs cs:List V) (hf:∀ v∈fs,v.atom = true) (hcs:∀ v∈cs,v.atom = true) (p:Int→Bool) (hp:∀ h,1≤h∧h≤c.H→PureC Tryz.prog g (fs++[.int .i64 h]++cs) (fun r=>r = .bool (p h))) :
  Iter Tryz.prog 126 [] [.fp [stV c b] 0,.fp [.clo (.func g) fs cs] 0] (itemsI (hallsL c p)):=by
 have hr:=hc.rng
 refine iter_of_wp (c:=c126) (rs:=[]) mixed ok126 rfl ?_
 intro Y o y H top I D hI hD hy h0
 rw [show (itemsI (hallsL c p)).length = (hallsL c p).length by simp [itemsI]]
 unfold c126
 dsimp only [argE,List.nil_append,List.cons_append]
 refine W.run ?_
 refine W.loop (fun z:Nat × Hp × Nat=>⟨[(0,.yld o),(1,.fp [stV c b] 0),(2,.fp [.clo (.func g) fs cs] 0),(4,.int .i64 ((z.1:Int)+1))],z.2.1,z.2.2⟩) (fun z=>z.1≤c.H.toNat∧I ((rngH z.1).filter p).length z.2.1 z.2.2) (fun z=>c.H.toNat - z.1) (0,H,top+8) ⟨by dsimp only;omega,hI _ _ _ _ h0 (by dsimp only;omega)⟩ ?_
 rintro ⟨k,H1,n⟩ ⟨hk,hI1⟩
 dsimp only at hk hI1 ⊢
 by_cases hlt:k < c.H.toNat
 ·have c1 := hp ((k : Int) + 1) (by omega)
  have hat:∀ v∈fs++[V.int .i64 ((k:Int)+1)]++cs,v.atom = true:=by
   intro v hv
   simp only [List.mem_append,List.mem_singleton] at hv
   rcases hv with (h | h) | h
   ·exact hf v h
   ·rw [h];rfl
   ·exact hcs v h
  clear hp
  have hfl:(rngH (k+1)).filter p = (rngH k).filter p++if p ((k:Int)+1) then [(k:Int)+1] else []:=by
   rw [rngH_succ,List.filter_append];congr 1;simp [List.filter_cons]
  cases hpk:p ((k:Int)+1)
  ·rw [hpk] at c1 hfl
   refine W.run ?_
   exact W.kl0 H1 (HS.refl _) ⟨(k+1,H1,_),⟨by dsimp only;omega,by rw [hfl];simpa using hI _ _ _ _ hI1 (by omega)⟩,rfl,by dsimp only;omega⟩ Nat.zero_lt_one
  ·rw [hpk] at c1 hfl
   have hit:(itemsI (hallsL c p))[((rngH k).filter p).length]? = some [V.int .i64 ((k:Int)+1)]:=by
    rw [itemsI,List.getElem?_map,hallsL_get hlt hpk];rfl
   refine W.run ?_
   refine W.yl2 (Ys.put_same _ _ _) (hy _ _ H1 _ hit (hI _ _ _ _ hI1 (by omega))) ?_
   rintro v H2 t ⟨H3,hs,⟨rfl,h3⟩ | ⟨rfl,h3⟩⟩ ht
   ·refine W.run ?_
    exact W.kl0 H3 hs ⟨(k+1,H3,_),⟨by dsimp only;omega,by rw [hfl];simpa using hI _ _ _ _ h3 (by omega)⟩,rfl,by dsimp only;omega⟩ Nat.zero_lt_one
   ·refine W.run ?_
    exact W.retR rfl hs (.inr (hD _ _ _ h3 (by dsimp only;omega)))
 ·have : k = c.H.toNat := by omega
  subst this
  refine W.run ?_
  exact W.retRn rfl (HS.refl _) (.inl (hI _ _ _ _ hI1 (by dsimp only;omega)))
theorem itemsI_get {L:List Int} {i:Nat} (h:i < L.length):(itemsI L)[i]? = some [V.int .i64 L[i]]:=by simp [itemsI,h]
def gSq (L:List Int):Nat × Nat × Nat→Hp
 | (0,_,_)=>Hp.put (fun _=>none) 0 { cells:=[.nils],sz:=1 }
 | (i+1,id,ver)=>(Hp.put (fun _=>none) 0 { cells:=[.ref id ver 0 (i+1)],sz:=1 }).put id { cells:=(L.take (i+1)).map (V.int .i64),sz:=1,ver:=ver }
set_option maxRecDepth 10000 in
theorem k168 (f:FuncId) (fs cs:List V) (L:List Int) (hL:L.length < 2 ^ 40) (hf:∀ v∈fs,v.atom = true) (hc:∀ v∈cs,v.atom = true) (hit:Iter Tryz.prog f fs cs (itemsI L)):PureC Tryz.prog 168 [.nils,.clo (.func f) fs cs] (fun r=>r = .own (L.map (V.int .i64)) L.length 1):=by
 refine pureC_of_wp (.s 1) mixed ok168 rfl ?_
 unfold c168
 dsimp only [argE]
 refine W.run ?_
 refine W.rfi2 hit YEx.none rfl (fun vs hvs=>?_) (gSq L) (fun i x n=>x.1 = i∧i≤L.length∧(0 < i→24 < x.2.1∧x.2.1 < n)) (fun i x n n' h hn=>⟨h.1,h.2.1,fun hi=>by have:=h.2.2 hi;omega⟩) (0,0,0) (HS.refl _) ⟨rfl,by omega,by omega⟩ ?_ ?_ ?_
 ·obtain ⟨i,hi,rfl⟩:=List.getElem_of_mem hvs
  simp [itemsI]
 ·rintro i ⟨j,id,ver⟩ n ⟨rfl,h1,h2⟩
  cases j with
  | zero=>simp [gSq,Hp.put]
  | succ j =>
   have:=h2 (by omega)
   dsimp only at this
   simp only [gSq,Hp.put];rw [if_neg (by omega),if_neg (by omega)]
 ·rintro i vs ⟨j,id,ver⟩ n hi ⟨rfl,h1,h2⟩ hn
  dsimp only at h1 h2 hi ⊢
  obtain ⟨hi1,-⟩:=List.getElem?_eq_some_iff.1 hi
  rw [show (itemsI L).length = L.length by simp [itemsI]] at hi1
  rw [itemsI_get hi1,Option.some.injEq] at hi
  subst hi
  dsimp only [putL]
  cases j with
  | zero =>
   dsimp only [gSq]
   refine W.run ?_
   refine W.kasg ?_
   refine W.run ?_
   refine W.kitr2 (1,n+8+24,0) ?_ ⟨rfl,by omega,fun _=>by dsimp only;omega⟩ (by omega)
   have e : [V.int .i64 L[0]] = (L.take 1).map (V.int .i64) := by cases L with
    | nil=>simp at hi1
    | cons a l=>rfl
   rw [e]
   exact HS.p (HS.p (HS.p (HS.emp _)))
  | succ j =>
   have h3:=h2 (by omega)
   have hlt:(L.take (j+1)).length = j+1:=by rw [List.length_take];omega
   dsimp only [gSq]
   refine W.run ?_
   refine W.kasg2 (by rw [put_ne (by omega),put_same]) (by rw [put_swap (show 24 < id by omega),put2_eq,put_put]) ?_
   refine W.run ?_
   refine W.kitr2 (j+2,id,ver+1) ?_ ⟨rfl,by omega,fun _=>by dsimp only;omega⟩ (by omega)
   have e:(L.take (j+1)).map (V.int .i64)++[V.int .i64 L[j+1]] = (L.take (j+2)).map (V.int .i64):=by
    rw [← List.take_append_getElem hi1,List.map_append];rfl
   rw [e]
   exact HS.p (HS.p (HS.p (HS.emp _)))
 ·rintro ⟨j,id,ver⟩ n ⟨hj,h1,h2⟩ hn
  rw [show (itemsI L).length = L.length by simp [itemsI]] at hj h2
  dsimp only at hj h2 ⊢
  subst hj
  clear h1
  cases hj:L.length with
  | zero =>
   dsimp only [gSq]
   refine W.run ?_
   rw [List.length_eq_zero_iff.1 hj];rfl
  | succ j =>
   have h3:=h2 (by omega)
   have hlt:(L.take (j+1)).length = j+1:=by rw [List.length_take];omega
   dsimp only [gSq]
   refine W.run ?_
   rw [← hj]
theorem k124 (f:FuncId) (fs cs:List V) (L:List Int) (hL:L.length < 2 ^ 40) (hf:∀ v∈fs,v.atom = true) (hc:∀ v∈cs,v.atom = true) (hit:Iter Tryz.prog f fs cs (itemsI L)):PureC Tryz.prog 124 [.clo (.func f) fs cs] (fun r=>r = slI L):=by
 have c1:=k168 f fs cs L hL hf hc hit
 clear hit
 refine pureC_of_wp .x mixed ok124 rfl ?_
 unfold c124
 dsimp only [argE]
 refine W.run ?_
 rfl
theorem hallsL_len {c:Cf} (hc:c.Ok) (p:Int→Bool):(hallsL c p).length≤16:=by
 have:=hc.rng
 have h:=List.length_filter_le p (rngH c.H.toNat)
 rw [rngH_len] at h
 unfold hallsL;omega
theorem coll (c:Cf) (hc:c.Ok) (b:Brd) (g:FuncId) (fs cs:List V) (hf:∀ v∈fs,v.atom = true) (hcs:∀ v∈cs,v.atom = true) (p:Int→Bool) (hp:∀ h,1≤h∧h≤c.H→PureC Tryz.prog g (fs++[.int .i64 h]++cs) (fun r=>r = .bool (p h))) :
  PureC Tryz.prog 124 [.clo (.func 126) [] [.fp [stV c b] 0,.fp [.clo (.func g) fs cs] 0]] (fun r=>r = slI (hallsL c p)) :=
 k124 126 [] _ _ (by have:=hallsL_len hc p;omega) (by simp) (by simp [V.atom]) (it126 c hc b g fs cs hf hcs p hp)
def okL (most:Int) (l:List Ln):Bool:=decide ((l.length:Int)≤most) && !(l.any fun x=>decide (64 < x.nums.length))
def Brd.fits (most:Int) (b:Brd):Bool:=okL most b.d && okL most b.c && okL most b.a && okL most b.r
theorem okL_fits (most:Int) (l:List Ln):fitsL most (l.map fun x=>(x,slI x.nums)) = okL most l:=by
 unfold fitsL okL
 rw [List.length_map,List.any_map];rfl
theorem lnsI_of {l:List Ln} (h:LnsB l):LnsI (l.map fun x=>(x,slI x.nums)):=by
 refine ⟨by rw [List.length_map];have:=h.1;omega,fun p hp=>?_⟩
 obtain ⟨x,hx,rfl⟩:=List.mem_map.1 hp
 exact ⟨.inl rfl,by have:=(h.2 x hx).1;dsimp only;omega⟩
theorem lnsV_eq (l:List Ln):lnsV (l.map fun x=>(x,slI x.nums)) = linV l:=by
 show V.sl _ _ = V.sl _ _
 rw [← linC_lnsC,List.length_map]
theorem k51b {c:Cf} (hc:c.Ok) (most:Int) (hm:0≤most∧most < 2 ^ 40) (b:Brd) (hb:b.Ok):PureC Tryz.prog 51 [c.v,bdV b,.int .i64 most] (fun r=>r = .int .i64 (if b.fits most then 0 else 2)):=by
 have h:=k51 hc.1 hc.2 most hm _ _ _ _ (lnsI_of hb.1) (lnsI_of hb.2.1) (lnsI_of hb.2.2.1) (lnsI_of hb.2.2.2)
 rw [okL_fits,okL_fits,okL_fits,okL_fits] at h
 unfold brdV at h
 rw [lnsV_eq,lnsV_eq,lnsV_eq,lnsV_eq] at h
 exact h
theorem k125 (sv:V) (hsv:sv.atom = true) (g:FuncId) (h:Int) (t:Bool) (hp:PureC Tryz.prog g [sv,.int .i64 h] (fun r=>r = .bool t)):PureC Tryz.prog 125 [.int .i64 h,.fp [.clo (.func g) [] []] 0,.fp [sv] 0] (fun r=>r = .bool t):=by
 refine pureC_of_wp .x mixed ok125 rfl ?_
 unfold c125
 dsimp only [argE]
 refine W.run ?_
 rfl
set_option maxRecDepth 10000 in
theorem k73 (c:Cf) (hc:c.Ok) (b:Brd) (hb:b.Ok) (g:FuncId) (p:Int→Bool) (hp:∀ h,1≤h∧h≤c.H→PureC Tryz.prog g [stV c b,.int .i64 h] (fun r=>r = .bool (p h))):PureC Tryz.prog 73 [c.v,bdV b,.clo (.func g) [] []] (fun r=>r = if b.fits 400 then .tup [slI (hallsL c p),.int .i64 0] else .tup [.nils,.int .i64 2]):=by
 have c1:=k51b hc 400 (by omega) b hb
 have c2:=k58 c hc b hb
 have c3:=k77 c b 125 [] [.fp [.clo (.func g) [] []] 0,.fp [stV c b] 0] (by simp) (by simp [V.atom])
 have c4:=coll c hc b 125 [] [.fp [.clo (.func g) [] []] 0,.fp [stV c b] 0] (by simp) (by simp [V.atom]) p (fun h hh=>k125 _ rfl g h (p h) (hp h hh))
 clear hp hc
 refine pureC_of_wp (.l [.x,.x]) mixed ok73 rfl ?_
 unfold c73
 dsimp only [argE,Cf.v,cfgV]
 cases hf:b.fits 400
 ·rw [hf] at c1
  refine W.run ?_
  rfl
 ·rw [hf] at c1
  refine W.run ?_
  rfl
theorem k32 (c:Cf) (hc:c.Ok) (b:Brd) (hb:b.Ok):PureC Tryz.prog 32 [c.v,bdV b] (fun r=>r = if b.fits 400 then .tup [slI (hallsL c (isInM c b)),.int .i64 0] else .tup [.nils,.int .i64 2]):=by
 have c1:=k73 c hc b hb 74 (isInM c b) (fun h hh=>k74 c hc b hb h (by have:=hc.rng;omega))
 clear hc
 refine pureC_of_wp (.l [.x,.x]) mixed ok32 rfl ?_
 unfold c32
 dsimp only [argE,Cf.v,cfgV]
 cases hf:b.fits 400
 ·rw [hf] at c1
  refine W.run ?_
  rfl
 ·rw [hf] at c1
  refine W.run ?_
  rfl
attribute [go_sem] Option.isSome_none Option.isSome_some
set_option maxRecDepth 10000 in
theorem k127 (A B:List Int) (hA:A.length < 2 ^ 40) (hB:B.length < 2 ^ 40):PureC Tryz.prog 127 [slI A,slI B] (fun r=>r = .bool (decide (A = B))):=by
 refine pureC_of_wp .x mixed ok127 rfl ?_
 unfold c127
 dsimp only [argE]
 by_cases hl:A.length = B.length
 ·refine W.run ?_
  refine W.lp (fun i:Nat=>[(0,slI A),(1,slI B),(12,.int .i64 (A.length:Int)),(13,.int .i64 (i:Int))]) (fun _ _=>none) (fun i=>i≤A.length∧A.take i = B.take i) (fun i=>A.length - i) 0 rfl (HS.refl _) ⟨by omega,rfl⟩ ?_
  rintro i nx ⟨h1,h2⟩ hnx
  by_cases hi:i < A.length
  ·by_cases he : A[i] = B[i]'(by omega)
   ·refine W.run ?_
    exact W.kl (i+1) rfl (HS.refl _) (by omega) ⟨by omega,by rw [← List.take_append_getElem hi,← List.take_append_getElem (by omega:i < B.length),h2,he]⟩ (by omega)
   ·have : A ≠ B := fun e => he (by simp [e])
    refine W.run ?_
    rw [decide_eq_false this]
  ·have hi2 : i = A.length := by omega
   subst hi2
   have:A = B:=by
    rw [List.take_length,List.take_of_length_le (by omega)] at h2;exact h2
   refine W.run ?_
   rw [decide_eq_true this]
 ·have : A ≠ B := fun e => hl (by rw [e])
  refine W.run ?_
  rw [decide_eq_false this]
theorem headD_get {l:List Int} (h:0 < l.length):l.headD 0 = l[0]:=by
 cases l with
 | nil=>simp at h
 | cons a l=>rfl
def revC (c:Cf) (b:Brd) (x:Ln):Bool:=cntB c.H x 4 (c.B+1) false && (b.deal c x.hall).isSome
def revR (c:Cf) (b:Brd) (x:Ln):Bool:=revC c b x && (decide (polyE c.P x.nums = 0) && decide (some (comM c.R c.G x.nums) = b.deal c x.hall))
def opnC (c:Cf) (b:Brd) (x:Ln):Bool:=cntB c.H x 5 1 true && isInM c b x.other
def opnR (c:Cf) (b:Brd) (x:Ln):Bool:=opnC c b x && fitsM c b x.other x.hall (x.nums.headD 0)
def LnO (x:Ln):Prop:=x.nums.length < 2 ^ 20∧∀ n∈x.nums,B64 n
set_option maxRecDepth 10000 in
theorem k130 (c:Cf) (hc:c.Ok) (b:Brd) (hb:b.Ok) (x:Ln) (hx:LnO x):PureC Tryz.prog 130 [stV c b,.agg (lnK x)] (fun r=>r = .tup [.bool (opnC c b x),.bool (opnR c b x)]):=by
 have hr:=hc.rng
 have c1:=k114 c.R c.P c.G c.H c.B c.K 5 1 x (by have:=hx.1;omega) true (slI x.nums) (Or.inl rfl)
 refine pureC_of_wp (.l [.x,.x]) mixed ok130 rfl ?_
 unfold c130 opnR opnC
 dsimp only [argE]
 cases hcnt:cntB c.H x 5 1 true
 ·rw [hcnt] at c1
  refine W.run ?_
  rfl
 ·rw [hcnt] at c1
  have h1:=cntB_hall hcnt
  have h2:=cntB_other hcnt
  have c2:=k74 c hc b hb x.other (by omega)
  have hl1:0 < x.nums.length:=by omega
  have hn0:=headD_get hl1
  have c3:=k81 c hc b hb x.other x.hall x.nums[0] (by omega)
  rw [hn0]
  clear hc
  cases hi:isInM c b x.other
  ·rw [hi] at c2
   refine W.run ?_
   rfl
  ·rw [hi] at c2
   refine W.run ?_
   rfl
set_option maxRecDepth 10000 in
theorem k129 (c:Cf) (hc:c.Ok) (b:Brd) (hb:b.Ok) (x:Ln) (hx:LnO x):PureC Tryz.prog 129 [stV c b,.agg (lnK x)] (fun r=>r = .tup [.bool (revC c b x),.bool (revR c b x)]):=by
 have hr:=hc.rng
 have c1:=k114 c.R c.P c.G c.H c.B c.K 4 (c.B+1) x (by have:=hx.1;omega) false (slI x.nums) (Or.inl rfl)
 refine pureC_of_wp (.l [.x,.x]) mixed ok129 rfl ?_
 unfold c129 revR revC
 dsimp only [argE]
 cases hcnt:cntB c.H x 4 (c.B+1) false
 ·rw [hcnt] at c1
  clear hc
  refine W.run ?_
  rfl
 ·rw [hcnt] at c1
  have h1:=cntB_hall hcnt
  have c2:=k79 c hc b hb x.hall (by omega)
  cases hd:b.deal c x.hall with
  | none =>
   rw [hd] at c2
   clear hc
   refine W.run ?_
   rfl
  | some A =>
   rw [hd] at c2
   have hA:=deal_ok hb hd
   have hl:=hx.1
   by_cases hp:polyE c.P x.nums = 0
   ·have c3 := k119 hc.1 x.nums _ rfl (by omega) hp
    have hcl:(comM c.R c.G x.nums).length = x.nums.length:=by simp [comM]
    have c4:=k127 (comM c.R c.G x.nums) A (by omega) (by omega)
    rw [show slI (comM c.R c.G x.nums) = .sl ((comM c.R c.G x.nums).map (V.int .i64)) x.nums.length from by show V.sl _ _ = V.sl _ _;rw [hcl]] at c4
    clear hc
    refine W.run ?_
    rw [hd]
    refine W.run ?_
    rw [decide_eq_true hp]
    simp only [Option.isSome_some,Bool.true_and,Option.some.injEq]
   ·have c3 := k119e hc.1 x.nums _ rfl (by omega) hp
    clear hc
    refine W.run ?_
    rw [decide_eq_false hp]
    rfl
def qTwice (c:Cf) (b:Brd) (h:Int) (x:Ln):Bool:=qDeal c h x && decide (x.nums≠match b.d.find? (qDeal c h) with | some y=>y.nums | none=>[])
def twiceM (c:Cf) (b:Brd) (h:Int):Int:=fstI (qTwice c b h) b.d
theorem fstI_hit {q:Ln→Bool} {l:List Ln} {i:Nat} (hi:i < l.length) (hn:∀ x∈l.take i,q x = false) (h:q l[i] = true):fstI q l = i:=by
 unfold fstI
 have:l.findIdx? q = some i:=by
  rw [List.findIdx?_eq_some_iff_getElem]
  refine ⟨hi,h,fun j hj=>?_⟩
  have:=hn l[j] (List.mem_take_iff_getElem.2 ⟨j,by omega,rfl⟩)
  simp [this]
 rw [this]
theorem fstI_no {q:Ln→Bool} {l:List Ln} (hn:∀ x∈l,q x = false):fstI q l = -1:=by
 unfold fstI
 rw [List.findIdx?_eq_none_iff.2 hn]
theorem mem_take_succ {l:List Ln} {i:Nat} (hi:i < l.length) {x:Ln} (h:x∈l.take (i+1)):x∈l.take i∨x = l[i]:=by
 rw [← List.take_append_getElem hi] at h
 rw [List.mem_append,List.mem_singleton] at h;exact h
set_option maxRecDepth 10000 in
set_option maxHeartbeats 1000000 in
theorem k78 (c:Cf) (hc:c.Ok) (b:Brd) (hb:b.Ok) (h:Int) (hh:1≤h∧h≤c.H):PureC Tryz.prog 78 [stV c b,.int .i64 h] (fun r=>r = .int .i64 (twiceM c b h)):=by
 have hr:=hc.rng
 have hbl:=hb.1.1
 have hbd:=hb.1.2
 clear hc hb
 refine pureC_of_wp .x mixed ok78 rfl ?_
 unfold c78 twiceM
 dsimp only [argE]
 refine W.run ?_
 refine W.lp (fun i:Nat=>[(0,stV c b),(1,.int .i64 h),(11,linV b.d),(12,.int .i64 (b.d.length:Int)),(13,.int .i64 (i:Int))]) (fun _ _=>none) (fun i=>i≤b.d.length∧∀ x∈b.d.take i,qTwice c b h x = false) (fun i=>b.d.length - i) 0 rfl (HS.refl _) ⟨by omega,by simp⟩ ?_
 rintro i nx ⟨h1,h2⟩ hnx
 by_cases hi:i < b.d.length
 ·have c1 := k114 c.R c.P c.G c.H c.B c.K 1 (c.B + 1) b.d[i] (by have := (hbd b.d[i] (List.getElem_mem hi)).1; omega) false (slI b.d[i].nums) (Or.inl rfl)
  have hgo:qTwice c b h b.d[i] = false→i+1≤b.d.length∧∀ x∈b.d.take (i+1),qTwice c b h x = false:=fun hq=>⟨by omega,fun x hx=>(mem_take_succ hi hx).elim (h2 x) (fun e=>e ▸ hq)⟩
  have hst:qTwice c b h b.d[i] = true→fstI (qTwice c b h) b.d = i:=fun hq=>fstI_hit hi h2 hq
  clear h2
  by_cases hhall:b.d[i].hall = h
  ·cases hcnt:cntB c.H b.d[i] 1 (c.B+1) false
   ·rw [hcnt] at c1
    have hg:=hgo (by rw [qTwice,qDeal,hcnt];rfl)
    clear hgo hst
    refine W.run ?_
    exact W.kl (i+1) rfl (HS.skip (HS.emp _) rfl _) (by omega) hg (by omega)
   ·rw [hcnt] at c1
    have hq:qDeal c h b.d[i] = true:=by rw [qDeal,hcnt,decide_eq_true hhall];rfl
    have hf0:0≤b.first c h:=by
     rcases Int.lt_or_le (b.first c h) 0 with hn | hn
     ·have:=(fstI_find _ _).1 hn
      rw [List.find?_eq_none] at this
      exact absurd hq (this _ (List.getElem_mem hi))
     ·exact hn
    obtain ⟨hf1,hf2⟩:=fstI_get hf0
    change (b.first c h).toNat < b.d.length at hf1
    have hqt:qTwice c b h b.d[i] = decide (b.d[i].nums≠b.d[(b.first c h).toNat].nums):=by
     rw [qTwice,hq,hf2,Bool.true_and];rfl
    have c2:=k127 b.d[i].nums b.d[(b.first c h).toNat].nums (by have:=(hbd b.d[i] (List.getElem_mem hi)).1;omega) (by have:=(hbd b.d[(b.first c h).toNat] (List.getElem_mem hf1)).1;omega)
    clear hf2 hbd
    by_cases he:b.d[i].nums = b.d[(b.first c h).toNat].nums
    ·rw [decide_eq_true he] at c2
     have hg:=hgo (by rw [hqt];simp [he])
     clear hgo hst hqt he
     refine W.run ?_
     exact W.kl (i+1) rfl (HS.skip (HS.emp _) rfl _) (by omega) hg (by omega)
    ·rw [decide_eq_false he] at c2
     have hg:=hst (by rw [hqt];simp [he])
     clear hgo hst hqt he
     rw [hg]
     refine W.run ?_
     rfl
  ·have hg := hgo (by rw [qTwice, qDeal, decide_eq_false hhall, Bool.and_false]; rfl)
   clear hgo hst
   refine W.run ?_
   exact W.kl (i+1) rfl (HS.skip (HS.emp _) rfl _) (by omega) hg (by omega)
 ·have hi2 : i = b.d.length := by omega
  subst hi2
  rw [List.take_length] at h2
  rw [fstI_no h2]
  clear h2
  refine W.run ?_
  rfl
def seenM (D:List Int):List (V × V):=D.map fun a=>(V.int .i64 a,V.bool true)
def idxM (x:Int):List Int→Nat→Nat
 | [],i=>i
 | a::D,i=>if x = a then i else idxM x D (i+1)
theorem find_in {x:Int}:∀ {D:List Int} {i:Nat},x∈D→findV 0 (.int .i64 x) (seenM D) i = some (some (idxM x D i,.bool true))
 | a::D,i,h=>by
  simp only [seenM,List.map_cons,findV,keyEq,if_true,Option.bind_some,idxM]
  by_cases e:x = a
  ·subst e;simp
  ·have hD:x∈D:=by
    rcases List.mem_cons.1 h with h | h
    ·exact absurd h e
    ·exact h
   have:=find_in (D:=D) (i:=i+1) hD
   simp only [seenM] at this
   simp [e,this]
theorem find_out {x:Int}:∀ {D:List Int} {i:Nat},x ∉ D→findV 0 (.int .i64 x) (seenM D) i = some none
 | [],i,h=>rfl
 | a::D,i,h=>by
  have h1:x≠a∧x ∉ D:=by simpa using h
  have:=find_out (D:=D) (i:=i+1) h1.2
  simp only [seenM] at this
  simp [seenM,findV,keyEq,h1.1,this]
theorem idx_same {x:Int}:∀ {D:List Int} {i:Nat},x∈D→∃ j,idxM x D i = i+j∧D[j]? = some x
 | a::D,i,h=>by
  by_cases e:x = a
  ·subst e;exact ⟨0,by simp [idxM],rfl⟩
  ·have hD:x∈D:=by
    rcases List.mem_cons.1 h with h | h
    ·exact absurd h e
    ·exact h
   obtain ⟨j,h1,h2⟩:=idx_same (D:=D) (i:=i+1) hD
   exact ⟨j+1,by simp [idxM,e,h1];omega,by simpa using h2⟩
theorem put_in {x:Int} {D:List Int} (h:x∈D):(seenM D).take (idxM x D 0)++(V.int .i64 x,V.bool true)::(seenM D).drop (idxM x D 0+1) = seenM D:=by
 obtain ⟨j,h1,h2⟩:=idx_same (i:=0) h
 rw [h1,Nat.zero_add]
 obtain ⟨hlt,h3⟩:=List.getElem?_eq_some_iff.1 h2
 have h4:j < (seenM D).length:=by simpa [seenM] using hlt
 have h5:(seenM D)[j] = (V.int .i64 x,V.bool true):=by simp [seenM,h3]
 rw [← h5,← List.drop_eq_getElem_cons h4,List.take_append_drop]
attribute [local go_sem] find_in find_out put_in
theorem seenM_snoc (D:List Int) (x:Int):seenM D++[(V.int .i64 x,V.bool true)] = seenM (D++[x]):=by simp [seenM]
theorem nodup_snoc {X:List Int} {x:Int}:(X++[x]).Nodup↔X.Nodup∧x ∉ X:=by
 rw [List.nodup_append]
 constructor
 ·rintro ⟨h1,_,h3⟩
  exact ⟨h1,fun h=>h3 x h x (by simp) rfl⟩
 ·rintro ⟨h1,h2⟩
  exact ⟨h1,by simp,fun a ha b hb e=>by simp at hb;subst hb;subst e;exact h2 ha⟩
end Go.Dp
namespace Go.Dp
open Go.RowKit Go.Proofs
attribute [local irreducible] wp wpOps wpOp1 CallW CallT kSeq kBlk kLoop kReg retP retR kAsg kRound kRf kCut kItr
set_option linter.unusedVariables false
set_option linter.unusedSimpArgs false
theorem k189 (P g x:Int):PureC Tryz.prog 189 [.int .i64 x,.fp [fieldV P g] 0] (fun r=>r = .bool (decide (x < 0∨P≤x))):=by
 by_cases h:x < 0
 ·refine pureC_of_wp .x mixed ok189 rfl ?_
  unfold c189
  dsimp only [argE,fieldV,fldC]
  refine W.run ?_
  rw [decide_eq_true (.inl h)]
 ·refine pureC_of_wp .x mixed ok189 rfl ?_
  unfold c189
  dsimp only [argE,fieldV,fldC]
  refine W.run ?_
  simp [h]
theorem k146 (P g:Int) (A:List Int) (hA:A.length < 2 ^ 40) (hr:InF P A):PureC Tryz.prog 146 [fieldV P g,slI A] (fun r=>r = .bool true):=by
 have c1:=k180 (V.int .i64) A A.length rfl hA 189 [.fp [fieldV P g] 0] (fun x=>decide (x < 0∨P≤x)) (fun _=>rfl) (by simp [V.atom]) (fun a _=>k189 P g a)
 have e:(A.any fun x=>decide (x < 0∨P≤x)) = false:=by
  rw [List.any_eq_false]
  intro x hx
  have:=hr x hx
  rw [decide_eq_true_eq];omega
 rw [e] at c1
 refine pureC_of_wp .x mixed ok146 rfl ?_
 unfold c146
 dsimp only [argE,fieldV,fldC] at c1 ⊢
 refine W.run ?_
 rfl
attribute [local go_sem] find_in find_out put_in
set_option maxRecDepth 10000 in
theorem k147 (A:List Int) (hA:A.length < 2 ^ 40) (hn:A.Nodup):PureC Tryz.prog 147 [slI A] (fun r=>r = .bool true):=by
 refine pureC_of_wp .x mixed ok147 rfl ?_
 unfold c147
 dsimp only [argE]
 refine W.run ?_
 refine W.lp (fun i:Nat=>[(3,.mp 8),(7,slI A),(8,.int .i64 (A.length:Int)),(9,.int .i64 (i:Int))]) (fun i=>Hp.put (fun _=>none) 8 { cells:=[],sz:=0,sp:=2,mp:=seenM (A.take i) }) (fun i=>i≤A.length) (fun i=>A.length - i) 0 rfl (HS.refl _) (by omega) ?_
 rintro i nx hi hnx
 by_cases hlt:i < A.length
 ·have hni:A[i] ∉ A.take i:=by
   intro h
   have h2:(A.take (i+1)).Nodup:=hn.sublist (List.take_sublist _ _)
   rw [← List.take_append_getElem hlt,nodup_snoc] at h2
   exact h2.2 h
  refine W.run ?_
  rw [seenM_snoc,List.take_append_getElem hlt]
  refine W.kl (i+1) rfl (HS.refl _) (by omega) (by omega) (by omega)
 ·have : i = A.length := by omega
  subst this
  refine W.run ?_
  rfl
end Go.Dp
