import Derived.Test.YtlbjgnkjicifhaaGreatDwC2
import Derived.Test.YtlbjgnkjicifhaaGreatDwG1
import Derived.Test.YtlbjgnkjicifhaaGreatDpWk
import Derived.Test.YtlbjgnkjicifhaaGreatDwB6
import Derived.Test.YtlbjgnkjicifhaaGreatDsM12
namespace Go.Dp
open Go.RowKit Go.Proofs
attribute [local irreducible] wp wpOps wpOp1 CallW CallT kSeq kBlk kLoop kReg retP retR kAsg kRound kRf kCut kItr
set_option linter.unusedVariables false
set_option linter.unusedSimpArgs false
@[go_sem] theorem toNat_cast {z:Int} (h:0≤z):((z.toNat:Nat):Int) = z:=Int.toNat_of_nonneg h
section
variable {c:Cf} {b:Brd} {i n m:Nat}
@[go_sem] theorem stB_len:(stB c b).length = 622:=stC_len rfl
@[go_sem] theorem stB_deal (h:i < 17):(stB c b)[27+i]? = some (optV (b.deal c i)):=stC_gD rfl h
@[go_sem] theorem stB_compl (h:n < 17∧m < 17):(stB c b)[44+n * 17+m]? = some (.bool (b.compl c n m)):=by
 have:=stC_gC (hd:=hdC c b) (F:=fun i=>.int .i64 (b.first c i)) (D:=fun i=>optV (b.deal c i)) (C:=fun i=>.bool (b.compl c ((i / 17:Nat):Int) ((i % 17:Nat):Int))) (A:=fun i=>.int .i64 (b.ans c ((i / 17:Nat):Int) ((i % 17:Nat):Int))) rfl h
 rw [stB,this,show (n * 17+m) / 17 = n by omega,show (n * 17+m) % 17 = m by omega]
@[go_sem] theorem stB_ans (h:n < 17∧m < 17):(stB c b)[333+n * 17+m]? = some (.int .i64 (b.ans c n m)):=by
 have:=stC_gA (hd:=hdC c b) (F:=fun i=>.int .i64 (b.first c i)) (D:=fun i=>optV (b.deal c i)) (C:=fun i=>.bool (b.compl c ((i / 17:Nat):Int) ((i % 17:Nat):Int))) (A:=fun i=>.int .i64 (b.ans c ((i / 17:Nat):Int) ((i % 17:Nat):Int))) rfl h
 rw [stB,this,show (n * 17+m) / 17 = n by omega,show (n * 17+m) % 17 = m by omega]
@[go_sem] theorem stB_1:(stB c b)[1]? = some (.int .i64 c.P):=rfl
@[go_sem] theorem stB_3:(stB c b)[3]? = some (.int .i64 c.H):=rfl
@[go_sem] theorem stB_4:(stB c b)[4]? = some (.int .i64 c.B):=rfl
@[go_sem] theorem stB_6:(stB c b)[6]? = some (linV b.d):=rfl
@[go_sem] theorem stB_7:(stB c b)[7]? = some (linV b.c):=rfl
@[go_sem] theorem stB_8:(stB c b)[8]? = some (linV b.a):=rfl
@[go_sem] theorem stB_9:(stB c b)[9]? = some (linV b.r):=rfl
@[go_sem] theorem stB_t3:List.take 3 (stB c b) = [.int .i64 c.R,.int .i64 c.P,.int .i64 c.G]:=rfl
@[go_sem] theorem stB_t6:List.take 6 (stB c b) = [.int .i64 c.R,.int .i64 c.P,.int .i64 c.G,.int .i64 c.H,.int .i64 c.B,.int .i64 c.K]:=rfl
@[go_sem] theorem linC_3 {l:List Ln} (h:i < l.length):(linC l)[i * 4+3]? = some (slI l[i].nums):=by
 have:=linC_get h
 have e:((linC l).drop (i * 4)).take 4 = lnK l[i]:=this
 have:(((linC l).drop (i * 4)).take 4)[3]? = some (slI l[i].nums):=by rw [e];rfl
 rw [List.getElem?_take,if_pos (by omega),List.getElem?_drop] at this
 exact this
end
theorem find_mem {q:Ln→Bool} {l:List Ln} {x:Ln} (h:l.find? q = some x):x∈l:=List.mem_of_find?_eq_some h
theorem deal_ok {c:Cf} {b:Brd} (hb:b.Ok) {h:Int} {A:List Int} (e:b.deal c h = some A):(A.length:Int) = c.B+1∧(∀ n∈A,B64 n)∧A.all (hasB c.R c.P) = true∧A.length < 2 ^ 20:=by
 refine ⟨dealL_len e,?_⟩
 unfold Brd.deal dealL at e
 cases hf:b.d.find? (qDeal c h) with
 | none=>rw [hf] at e;cases e
 | some x =>
  rw [hf] at e
  simp only at e
  split at e
  ·rename_i h2
   cases e
   have:=hb.1.2 x (find_mem hf)
   exact ⟨this.2,h2,this.1⟩
  ·cases e
theorem fstI_get {q:Ln→Bool} {l:List Ln} (h:0≤fstI q l):∃ hi:(fstI q l).toNat < l.length,l.find? q = some (l[(fstI q l).toNat]'hi):=by
 unfold fstI at h ⊢
 cases hf:l.findIdx? q with
 | none=>rw [hf] at h;simp at h
 | some i =>
  obtain ⟨h1,h2,h3⟩:=List.findIdx?_eq_some_iff_getElem.1 hf
  refine ⟨h1,?_⟩
  show l.find? q = some l[i]
  rw [List.find?_eq_some_iff_getElem]
  exact ⟨h2,i,h1,rfl,fun j hj=>by simpa using h3 j hj⟩
def fitsM (c:Cf) (b:Brd) (h x n:Int):Bool:=match b.deal c h with
 | some A=>fitB c.R c.P c.G A x n
 | none=>false
def ansL (c:Cf) (b:Brd) (h k:Int):Option Ln:=b.a.find? (qAns c h k)
def ansN (c:Cf) (b:Brd) (h k:Int):Int:=match ansL c b h k with
 | some x=>x.nums.headD 0
 | none=>0
def ansB (c:Cf) (b:Brd) (h k:Int):Bool:=match ansL c b h k with
 | some x=>fitsM c b h k (x.nums.headD 0)
 | none=>false
def rngH (n:Nat):List Int:=(List.range n).map fun i:Nat=>(i:Int)+1
def isInM (c:Cf) (b:Brd) (h:Int):Bool:=(b.deal c h).isSome && (rngH c.H.toNat).all fun j=>!b.compl c j h || ansB c b h j
theorem Cf.Ok.rng {c:Cf} (h:c.Ok):(2≤c.H∧c.H≤16∧c.H < c.P)∧(0≤c.B∧c.B < c.H):=⟨h.2.1,h.2.2.1⟩
theorem k79 (c:Cf) (hc:c.Ok) (b:Brd) (hb:b.Ok) (h:Int) (hh:0≤h∧h≤16):PureC Tryz.prog 79 [stV c b,.int .i64 h] (fun r=>r = .bool (b.deal c h).isSome):=by
 have hr:=hc.rng
 have h0:∀ A,b.deal c h = some A→0 < A.length:=fun A e=>by have:=(deal_ok hb e).1;omega
 refine pureC_of_wp .x mixed ok79 rfl ?_
 unfold c79
 dsimp only [argE]
 cases hd:b.deal c h with
 | none =>
  refine W.run ?_
  rw [hd]
  refine W.run ?_
  rfl
 | some A =>
  have:=h0 A hd
  refine W.run ?_
  rw [hd]
  refine W.run ?_
  rfl
set_option maxRecDepth 10000 in
theorem k81 (c:Cf) (hc:c.Ok) (b:Brd) (hb:b.Ok) (h x n:Int) (hh:0≤h∧h≤16):PureC Tryz.prog 81 [stV c b,.int .i64 h,.int .i64 x,.int .i64 n] (fun r=>r = .bool (fitsM c b h x n)):=by
 have hr:=hc.rng
 have h0:∀ A,b.deal c h = some A→0 < A.length∧PureC Tryz.prog 128 [grp c.R c.P c.G,slI A,.int .i64 x,.int .i64 n] (fun r=>r = .bool (fitB c.R c.P c.G A x n)):=fun A e=>by
  have:=deal_ok hb e
  exact ⟨by omega,k128 hc.1 A _ rfl (by omega) this.2.1 x n⟩
 refine pureC_of_wp .x mixed ok81 rfl ?_
 unfold c81 fitsM
 dsimp only [argE]
 cases hd:b.deal c h with
 | none =>
  refine W.run ?_
  rw [hd]
  refine W.run ?_
  rfl
 | some A =>
  obtain ⟨h1,h2⟩:=h0 A hd
  clear h0
  refine W.run ?_
  rw [hd]
  refine W.run ?_
  rw [hd]
  refine W.run ?_
  rfl
theorem ans_len {c:Cf} {h k:Int} {x:Ln} (e:qAns c h k x = true):x.nums.length = 1:=by
 simp only [qAns,Bool.and_eq_true] at e
 have:=(cntB_hall e.1.1).2.2.2
 omega
set_option maxRecDepth 10000 in
theorem k120 (c:Cf) (hc:c.Ok) (b:Brd) (hb:b.Ok) (h k:Int) (hh:0≤h∧h≤16) (hk:0≤k∧k≤16):PureC Tryz.prog 120 [stV c b,.int .i64 h,.int .i64 k] (fun r=>r = .tup [.int .i64 (ansN c b h k),.bool (ansB c b h k)]):=by
 have c1:=fun n=>k81 c hc b hb h k n hh
 have hbl:=hb.2.2.1.1
 refine pureC_of_wp (.l [.x,.x]) mixed ok120 rfl ?_
 unfold c120 ansN ansB ansL
 dsimp only [argE]
 by_cases hneg:b.ans c h k < 0
 ·rw [(fstI_find _ _).1 hneg]
  refine W.run ?_
  rfl
 ·obtain ⟨h1, h2⟩ := fstI_get (q := qAns c h k) (l := b.a) (by unfold Brd.ans at hneg; omega)
  have h3:=ans_len (List.find?_some h2)
  rw [h2]
  change (b.ans c h k).toNat < b.a.length at h1
  have h4:∃ n,b.a[(b.ans c h k).toNat].nums = [n]:=by
   cases hn:b.a[(b.ans c h k).toNat].nums with
   | nil=>have h3':b.a[(b.ans c h k).toNat].nums.length = 1:=h3;rw [hn] at h3';simp at h3'
   | cons n l =>
    cases l with
    | nil=>exact ⟨n,rfl⟩
    | cons _ _=>have h3':b.a[(b.ans c h k).toNat].nums.length = 1:=h3;rw [hn] at h3';simp at h3'
  obtain ⟨n,hn⟩:=h4
  have c1':=c1 n
  clear c1
  refine W.run ?_
  rw [hn]
  refine W.run ?_
  have e:b.a[(fstI (qAns c h k) b.a).toNat].nums = [n]:=hn
  simp only [e]
  rfl
theorem rngH_len (n:Nat):(rngH n).length = n:=by simp [rngH]
theorem rngH_mem {n:Nat} {x:Int}:x∈rngH n↔1≤x∧x≤n:=by
 simp only [rngH,List.mem_map,List.mem_range]
 constructor
 ·rintro ⟨i,h1,rfl⟩;omega
 ·rintro ⟨h1,h2⟩;exact ⟨(x - 1).toNat,by omega,by omega⟩
theorem rngH_succ (n:Nat):rngH (n+1) = rngH n++[(n:Int)+1]:=by simp [rngH,List.range_succ]
theorem rngH_all {n:Nat} {q:Int→Bool}:(rngH n).all q = true↔∀ k:Nat,k < n→q ((k:Int)+1) = true:=by
 rw [List.all_eq_true]
 constructor
 ·intro h k hk;exact h _ (rngH_mem.2 (by omega))
 ·intro h x hx
  have:=rngH_mem.1 hx
  have h2:=h (x - 1).toNat (by omega)
  rw [show (((x - 1).toNat:Nat):Int)+1 = x by omega] at h2;exact h2
set_option maxRecDepth 10000 in
theorem k74 (c:Cf) (hc:c.Ok) (b:Brd) (hb:b.Ok) (h:Int) (hh:0≤h∧h≤16):PureC Tryz.prog 74 [stV c b,.int .i64 h] (fun r=>r = .bool (isInM c b h)):=by
 have hr:=hc.rng
 have h0:∀ A,b.deal c h = some A→0 < A.length:=fun A e=>by have:=(deal_ok hb e).1;omega
 have c1:=fun k hk=>k120 c hc b hb h k hh hk
 refine pureC_of_wp .x mixed ok74 rfl ?_
 unfold c74 isInM
 dsimp only [argE]
 cases hd:b.deal c h with
 | none =>
  refine W.run ?_
  rw [hd]
  refine W.run ?_
  rfl
 | some A =>
  have h0':=h0 A hd
  clear h0
  refine W.run ?_
  rw [hd]
  refine W.run ?_
  refine W.lp (fun k:Nat=>[(0,stV c b),(1,.int .i64 h),(5,.int .i64 ((k:Int)+1))]) (fun _ _=>none) (fun k=>k≤c.H.toNat∧∀ j:Nat,j < k→(!b.compl c ((j:Int)+1) h || ansB c b h ((j:Int)+1)) = true) (fun k=>c.H.toNat - k) 0 rfl (HS.refl _) ⟨by omega,fun j hj=>by omega⟩ ?_
  rintro k nx ⟨h1,h2⟩ hnx
  by_cases hlt:k < c.H.toNat
  ·have c2 := c1 ((k : Int) + 1) (by omega)
   clear c1
   cases hq:(!b.compl c ((k:Int)+1) h || ansB c b h ((k:Int)+1))
   ·have hall:((rngH c.H.toNat).all fun j=>!b.compl c j h || ansB c b h j) = false:=by
     rw [Bool.eq_false_iff]
     intro e
     have:=rngH_all.1 e k hlt
     rw [hq] at this;cases this
    rw [hall]
    rw [Bool.or_eq_false_iff] at hq
    have hq1:b.compl c ((k:Int)+1) h = true:=by simpa using hq.1
    have hq2:=hq.2
    clear h2 hq
    refine W.run ?_
    rw [hq1,hq2]
    refine W.run ?_
    rfl
   ·have hn:∀ j:Nat,j < k+1→(!b.compl c ((j:Int)+1) h || ansB c b h ((j:Int)+1)) = true:=fun j hj=>by
     by_cases e:j = k
     ·rw [e];exact hq
     ·exact h2 j (by omega)
    clear h2
    rw [Bool.or_eq_true] at hq
    cases hb1:b.compl c ((k:Int)+1) h
    ·refine W.run ?_
     rw [hb1]
     refine W.run ?_
     exact W.kl (k+1) rfl (HS.refl _) (by omega) ⟨by omega,hn⟩ (by omega)
    ·have hb2 : ansB c b h ((k : Int) + 1) = true := by rw [hb1] at hq; simpa using hq
     refine W.run ?_
     rw [hb1,hb2]
     refine W.run ?_
     exact W.kl (k+1) rfl (HS.refl _) (by omega) ⟨by omega,hn⟩ (by omega)
  ·have hk : k = c.H.toNat := by omega
   subst hk
   have hall:((rngH c.H.toNat).all fun j=>!b.compl c j h || ansB c b h j) = true:=rngH_all.2 h2
   rw [hall]
   clear h2
   refine W.run ?_
   rfl
end Go.Dp
namespace Go.Dp
open Go.RowKit Go.Proofs
attribute [local irreducible] wp wpOps wpOp1 CallW CallT kSeq kBlk kLoop kReg retP retR kAsg kRound kRf kCut kItr
set_option linter.unusedVariables false
set_option linter.unusedSimpArgs false
theorem k77 (c:Cf) (b:Brd) (g:FuncId) (fs cs:List V) (hf:∀ v∈fs,v.atom = true) (hc:∀ v∈cs,v.atom = true):PureC Tryz.prog 77 [stV c b,.clo (.func g) fs cs] (fun r=>r = .clo (.func 126) [] [.fp [stV c b] 0,.fp [.clo (.func g) fs cs] 0]):=by
 refine pureC_of_wp .x mixed ok77 rfl ?_
 unfold c77
 dsimp only [argE]
 refine W.run ?_
 rfl
def hallsL (c:Cf) (p:Int→Bool):List Int:=(rngH c.H.toNat).filter p
theorem hallsL_get {c:Cf} {p:Int→Bool} {k:Nat} (hk:k < c.H.toNat) (hp:p ((k:Int)+1) = true):(hallsL c p)[((rngH k).filter p).length]? = some ((k:Int)+1):=by
 have h:∀ n,k < n→∃ t,rngH n = rngH k++((k:Int)+1)::t:=by
  intro n
  induction n with
  | zero=>intro h;omega
  | succ n ih =>
   intro h
   by_cases e:k = n
   ·subst e;exact ⟨[],rngH_succ k⟩
   ·obtain ⟨t, ht⟩ := ih (by omega)
    exact ⟨t++[(n:Int)+1],by rw [rngH_succ,ht];simp⟩
 obtain ⟨t,ht⟩:=h _ hk
 unfold hallsL
 rw [ht,List.filter_append,List.filter_cons,if_pos hp,List.getElem?_append_right (by omega)]
 simp
def itemsI (l:List Int):List (List V):=l.map fun h=>[V.int .i64 h]
set_option maxRecDepth 10000 in
theorem it126 (c:Cf) (hc:c.Ok) (b:Brd) (g:FuncId) (fs cs:List V) (hf:∀ v∈fs,v.atom = true) (hcs:∀ v∈cs,v.atom = true) (p:Int→Bool) (hp:∀ h,1≤h∧h≤c.H→PureC Tryz.prog g (fs++[.int .i64 h]++cs) (fun r=>r = .bool (p h))) :
  Iter Tryz.prog 126 [] [.fp [stV c b] 0,.fp [.clo (.func g) fs cs] 0] (itemsI (hallsL c p)):=by
 have hr:=hc.rng
 refine iter_of_wp (c:=c126) (rs:=[]) mixed ok126 rfl ?_
 intro Y o y H top I D hI hD hy h0
 rw [show (itemsI (hallsL c p)).length = (hallsL c p).length by simp [itemsI]]
 unfold c126
 dsimp only [argE,List.nil_append,List.cons_append]
 refine W.run ?_
 refine W.loop (fun z:Nat × Hp × Nat=>⟨[(0,.yld o),(1,.fp [stV c b] 0),(2,.fp [.clo (.func g) fs cs] 0),(4,.int .i64 ((z.1:Int)+1))],z.2.1,z.2.2⟩) (fun z=>z.1≤c.H.toNat∧I ((rngH z.1).filter p).length z.2.1 z.2.2) (fun z=>c.H.toNat - z.1) (0,H,top+8) ⟨by dsimp only;omega,hI _ _ _ _ h0 (by dsimp only;omega)⟩ ?_
 rintro ⟨k,H1,n⟩ ⟨hk,hI1⟩
 dsimp only at hk hI1 ⊢
 by_cases hlt:k < c.H.toNat
 ·have c1 := hp ((k : Int) + 1) (by omega)
  have hat:∀ v∈fs++[V.int .i64 ((k:Int)+1)]++cs,v.atom = true:=by
   intro v hv
   simp only [List.mem_append,List.mem_singleton] at hv
   rcases hv with (h | h) | h
   ·exact hf v h
   ·rw [h];rfl
   ·exact hcs v h
  clear hp
  have hfl:(rngH (k+1)).filter p = (rngH k).filter p++if p ((k:Int)+1) then [(k:Int)+1] else []:=by
   rw [rngH_succ,List.filter_append];congr 1;simp [List.filter_cons]
  cases hpk:p ((k:Int)+1)
  ·rw [hpk] at c1 hfl
   refine W.run ?_
   exact W.kl0 H1 (HS.refl _) ⟨(k+1,H1,_),⟨by dsimp only;omega,by rw [hfl];simpa using hI _ _ _ _ hI1 (by omega)⟩,rfl,by dsimp only;omega⟩ Nat.zero_lt_one
  ·rw [hpk] at c1 hfl
   have hit:(itemsI (hallsL c p))[((rngH k).filter p).length]? = some [V.int .i64 ((k:Int)+1)]:=by
    rw [itemsI,List.getElem?_map,hallsL_get hlt hpk];rfl
   refine W.run ?_
   refine W.yl2 (Ys.put_same _ _ _) (hy _ _ H1 _ hit (hI _ _ _ _ hI1 (by omega))) ?_
   rintro v H2 t ⟨H3,hs,⟨rfl,h3⟩ | ⟨rfl,h3⟩⟩ ht
   ·refine W.run ?_
    exact W.kl0 H3 hs ⟨(k+1,H3,_),⟨by dsimp only;omega,by rw [hfl];simpa using hI _ _ _ _ h3 (by omega)⟩,rfl,by dsimp only;omega⟩ Nat.zero_lt_one
   ·refine W.run ?_
    exact W.retR rfl hs (.inr (hD _ _ _ h3 (by dsimp only;omega)))
 ·have : k = c.H.toNat := by omega
  subst this
  refine W.run ?_
  exact W.retRn rfl (HS.refl _) (.inl (hI _ _ _ _ hI1 (by dsimp only;omega)))
theorem itemsI_get {L:List Int} {i:Nat} (h:i < L.length):(itemsI L)[i]? = some [V.int .i64 L[i]]:=by simp [itemsI,h]
theorem hallsL_len {c:Cf} (hc:c.Ok) (p:Int→Bool):(hallsL c p).length≤16:=by
 have:=hc.rng
 have h:=List.length_filter_le p (rngH c.H.toNat)
 rw [rngH_len] at h
 unfold hallsL;omega
def okL (most:Int) (l:List Ln):Bool:=decide ((l.length:Int)≤most) && !(l.any fun x=>decide (64 < x.nums.length))
def Brd.fits (most:Int) (b:Brd):Bool:=okL most b.d && okL most b.c && okL most b.a && okL most b.r
theorem okL_fits (most:Int) (l:List Ln):fitsL most (l.map fun x=>(x,slI x.nums)) = okL most l:=by
 unfold fitsL okL
 rw [List.length_map,List.any_map];rfl
theorem lnsI_of {l:List Ln} (h:LnsB l):LnsI (l.map fun x=>(x,slI x.nums)):=by
 refine ⟨by rw [List.length_map];have:=h.1;omega,fun p hp=>?_⟩
 obtain ⟨x,hx,rfl⟩:=List.mem_map.1 hp
 exact ⟨.inl rfl,by have:=(h.2 x hx).1;dsimp only;omega⟩
theorem lnsV_eq (l:List Ln):lnsV (l.map fun x=>(x,slI x.nums)) = linV l:=by
 show V.sl _ _ = V.sl _ _
 rw [← linC_lnsC,List.length_map]
theorem k51b {c:Cf} (hc:c.Ok) (most:Int) (hm:0≤most∧most < 2 ^ 40) (b:Brd) (hb:b.Ok):PureC Tryz.prog 51 [c.v,bdV b,.int .i64 most] (fun r=>r = .int .i64 (if b.fits most then 0 else 2)):=by
 have h:=k51 hc.1 hc.2 most hm _ _ _ _ (lnsI_of hb.1) (lnsI_of hb.2.1) (lnsI_of hb.2.2.1) (lnsI_of hb.2.2.2)
 rw [okL_fits,okL_fits,okL_fits,okL_fits] at h
 unfold brdV at h
 rw [lnsV_eq,lnsV_eq,lnsV_eq,lnsV_eq] at h
 exact h
attribute [go_sem] Option.isSome_none Option.isSome_some
set_option maxRecDepth 10000 in
theorem k127 (A B:List Int) (hA:A.length < 2 ^ 40) (hB:B.length < 2 ^ 40):PureC Tryz.prog 127 [slI A,slI B] (fun r=>r = .bool (decide (A = B))):=by
 refine pureC_of_wp .x mixed ok127 rfl ?_
 unfold c127
 dsimp only [argE]
 by_cases hl:A.length = B.length
 ·refine W.run ?_
  refine W.lp (fun i:Nat=>[(0,slI A),(1,slI B),(12,.int .i64 (A.length:Int)),(13,.int .i64 (i:Int))]) (fun _ _=>none) (fun i=>i≤A.length∧A.take i = B.take i) (fun i=>A.length - i) 0 rfl (HS.refl _) ⟨by omega,rfl⟩ ?_
  rintro i nx ⟨h1,h2⟩ hnx
  by_cases hi:i < A.length
  ·by_cases he : A[i] = B[i]'(by omega)
   ·refine W.run ?_
    exact W.kl (i+1) rfl (HS.refl _) (by omega) ⟨by omega,by rw [← List.take_append_getElem hi,← List.take_append_getElem (by omega:i < B.length),h2,he]⟩ (by omega)
   ·have : A ≠ B := fun e => he (by simp [e])
    refine W.run ?_
    rw [decide_eq_false this]
  ·have hi2 : i = A.length := by omega
   subst hi2
   have:A = B:=by
    rw [List.take_length,List.take_of_length_le (by omega)] at h2;exact h2
   refine W.run ?_
   rw [decide_eq_true this]
 ·have : A ≠ B := fun e => hl (by rw [e])
  refine W.run ?_
  rw [decide_eq_false this]
theorem headD_get {l:List Int} (h:0 < l.length):l.headD 0 = l[0]:=by
 cases l with
 | nil=>simp at h
 | cons a l=>rfl
def revC (c:Cf) (b:Brd) (x:Ln):Bool:=cntB c.H x 4 (c.B+1) false && (b.deal c x.hall).isSome
def revR (c:Cf) (b:Brd) (x:Ln):Bool:=revC c b x && (decide (polyE c.P x.nums = 0) && decide (some (comM c.R c.G x.nums) = b.deal c x.hall))
def opnC (c:Cf) (b:Brd) (x:Ln):Bool:=cntB c.H x 5 1 true && isInM c b x.other
def opnR (c:Cf) (b:Brd) (x:Ln):Bool:=opnC c b x && fitsM c b x.other x.hall (x.nums.headD 0)
def LnO (x:Ln):Prop:=x.nums.length < 2 ^ 20∧∀ n∈x.nums,B64 n
set_option maxRecDepth 10000 in
theorem k130 (c:Cf) (hc:c.Ok) (b:Brd) (hb:b.Ok) (x:Ln) (hx:LnO x):PureC Tryz.prog 130 [stV c b,.agg (lnK x)] (fun r=>r = .tup [.bool (opnC c b x),.bool (opnR c b x)]):=by
 have hr:=hc.rng
 have c1:=k114 c.R c.P c.G c.H c.B c.K 5 1 x (by have:=hx.1;omega) true (slI x.nums) (Or.inl rfl)
 refine pureC_of_wp (.l [.x,.x]) mixed ok130 rfl ?_
 unfold c130 opnR opnC
 dsimp only [argE]
 cases hcnt:cntB c.H x 5 1 true
 ·rw [hcnt] at c1
  refine W.run ?_
  rfl
 ·rw [hcnt] at c1
  have h1:=cntB_hall hcnt
  have h2:=cntB_other hcnt
  have c2:=k74 c hc b hb x.other (by omega)
  have hl1:0 < x.nums.length:=by omega
  have hn0:=headD_get hl1
  have c3:=k81 c hc b hb x.other x.hall x.nums[0] (by omega)
  rw [hn0]
  clear hc
  cases hi:isInM c b x.other
  ·rw [hi] at c2
   refine W.run ?_
   rfl
  ·rw [hi] at c2
   refine W.run ?_
   rfl
set_option maxRecDepth 10000 in
theorem k129 (c:Cf) (hc:c.Ok) (b:Brd) (hb:b.Ok) (x:Ln) (hx:LnO x):PureC Tryz.prog 129 [stV c b,.agg (lnK x)] (fun r=>r = .tup [.bool (revC c b x),.bool (revR c b x)]):=by
 have hr:=hc.rng
 have c1:=k114 c.R c.P c.G c.H c.B c.K 4 (c.B+1) x (by have:=hx.1;omega) false (slI x.nums) (Or.inl rfl)
 refine pureC_of_wp (.l [.x,.x]) mixed ok129 rfl ?_
 unfold c129 revR revC
 dsimp only [argE]
 cases hcnt:cntB c.H x 4 (c.B+1) false
 ·rw [hcnt] at c1
  clear hc
  refine W.run ?_
  rfl
 ·rw [hcnt] at c1
  have h1:=cntB_hall hcnt
  have c2:=k79 c hc b hb x.hall (by omega)
  cases hd:b.deal c x.hall with
  | none =>
   rw [hd] at c2
   clear hc
   refine W.run ?_
   rfl
  | some A =>
   rw [hd] at c2
   have hA:=deal_ok hb hd
   have hl:=hx.1
   by_cases hp:polyE c.P x.nums = 0
   ·have c3 := k119 hc.1 x.nums _ rfl (by omega) hp
    have hcl:(comM c.R c.G x.nums).length = x.nums.length:=by simp [comM]
    have c4:=k127 (comM c.R c.G x.nums) A (by omega) (by omega)
    rw [show slI (comM c.R c.G x.nums) = .sl ((comM c.R c.G x.nums).map (V.int .i64)) x.nums.length from by show V.sl _ _ = V.sl _ _;rw [hcl]] at c4
    clear hc
    refine W.run ?_
    rw [hd]
    refine W.run ?_
    rw [decide_eq_true hp]
    simp only [Option.isSome_some,Bool.true_and,Option.some.injEq]
   ·have c3 := k119e hc.1 x.nums _ rfl (by omega) hp
    clear hc
    refine W.run ?_
    rw [decide_eq_false hp]
    rfl
def qTwice (c:Cf) (b:Brd) (h:Int) (x:Ln):Bool:=qDeal c h x && decide (x.nums≠match b.d.find? (qDeal c h) with | some y=>y.nums | none=>[])
def twiceM (c:Cf) (b:Brd) (h:Int):Int:=fstI (qTwice c b h) b.d
theorem fstI_hit {q:Ln→Bool} {l:List Ln} {i:Nat} (hi:i < l.length) (hn:∀ x∈l.take i,q x = false) (h:q l[i] = true):fstI q l = i:=by
 unfold fstI
 have:l.findIdx? q = some i:=by
  rw [List.findIdx?_eq_some_iff_getElem]
  refine ⟨hi,h,fun j hj=>?_⟩
  have:=hn l[j] (List.mem_take_iff_getElem.2 ⟨j,by omega,rfl⟩)
  simp [this]
 rw [this]
theorem fstI_no {q:Ln→Bool} {l:List Ln} (hn:∀ x∈l,q x = false):fstI q l = -1:=by
 unfold fstI
 rw [List.findIdx?_eq_none_iff.2 hn]
theorem mem_take_succ {l:List Ln} {i:Nat} (hi:i < l.length) {x:Ln} (h:x∈l.take (i+1)):x∈l.take i∨x = l[i]:=by
 rw [← List.take_append_getElem hi] at h
 rw [List.mem_append,List.mem_singleton] at h;exact h
def seenM (D:List Int):List (V × V):=D.map fun a=>(V.int .i64 a,V.bool true)
def idxM (x:Int):List Int→Nat→Nat
 | [],i=>i
 | a::D,i=>if x = a then i else idxM x D (i+1)
theorem find_in {x:Int}:∀ {D:List Int} {i:Nat},x∈D→findV 0 (.int .i64 x) (seenM D) i = some (some (idxM x D i,.bool true))
 | a::D,i,h=>by
  simp only [seenM,List.map_cons,findV,keyEq,if_true,Option.bind_some,idxM]
  by_cases e:x = a
  ·subst e;simp
  ·have hD:x∈D:=by
    rcases List.mem_cons.1 h with h | h
    ·exact absurd h e
    ·exact h
   have:=find_in (D:=D) (i:=i+1) hD
   simp only [seenM] at this
   simp [e,this]
theorem find_out {x:Int}:∀ {D:List Int} {i:Nat},x ∉ D→findV 0 (.int .i64 x) (seenM D) i = some none
 | [],i,h=>rfl
 | a::D,i,h=>by
  have h1:x≠a∧x ∉ D:=by simpa using h
  have:=find_out (D:=D) (i:=i+1) h1.2
  simp only [seenM] at this
  simp [seenM,findV,keyEq,h1.1,this]
theorem idx_same {x:Int}:∀ {D:List Int} {i:Nat},x∈D→∃ j,idxM x D i = i+j∧D[j]? = some x
 | a::D,i,h=>by
  by_cases e:x = a
  ·subst e;exact ⟨0,by simp [idxM],rfl⟩
  ·have hD:x∈D:=by
    rcases List.mem_cons.1 h with h | h
    ·exact absurd h e
    ·exact h
   obtain ⟨j,h1,h2⟩:=idx_same (D:=D) (i:=i+1) hD
   exact ⟨j+1,by simp [idxM,e,h1];omega,by simpa using h2⟩
theorem put_in {x:Int} {D:List Int} (h:x∈D):(seenM D).take (idxM x D 0)++(V.int .i64 x,V.bool true)::(seenM D).drop (idxM x D 0+1) = seenM D:=by
 obtain ⟨j,h1,h2⟩:=idx_same (i:=0) h
 rw [h1,Nat.zero_add]
 obtain ⟨hlt,h3⟩:=List.getElem?_eq_some_iff.1 h2
 have h4:j < (seenM D).length:=by simpa [seenM] using hlt
 have h5:(seenM D)[j] = (V.int .i64 x,V.bool true):=by simp [seenM,h3]
 rw [← h5,← List.drop_eq_getElem_cons h4,List.take_append_drop]
attribute [local go_sem] find_in find_out put_in
theorem seenM_snoc (D:List Int) (x:Int):seenM D++[(V.int .i64 x,V.bool true)] = seenM (D++[x]):=by simp [seenM]
theorem nodup_snoc {X:List Int} {x:Int}:(X++[x]).Nodup↔X.Nodup∧x ∉ X:=by
 rw [List.nodup_append]
 constructor
 ·rintro ⟨h1,_,h3⟩
  exact ⟨h1,fun h=>h3 x h x (by simp) rfl⟩
 ·rintro ⟨h1,h2⟩
  exact ⟨h1,by simp,fun a ha b hb e=>by simp at hb;subst hb;subst e;exact h2 ha⟩
end Go.Dp
namespace Go.Dp
open Go.RowKit Go.Proofs
attribute [local irreducible] wp wpOps wpOp1 CallW CallT kSeq kBlk kLoop kReg retP retR kAsg kRound kRf kCut kItr
set_option linter.unusedVariables false
set_option linter.unusedSimpArgs false
theorem k189 (P g x:Int):PureC Tryz.prog 189 [.int .i64 x,.fp [fieldV P g] 0] (fun r=>r = .bool (decide (x < 0∨P≤x))):=by
 by_cases h:x < 0
 ·refine pureC_of_wp .x mixed ok189 rfl ?_
  unfold c189
  dsimp only [argE,fieldV,fldC]
  refine W.run ?_
  rw [decide_eq_true (.inl h)]
 ·refine pureC_of_wp .x mixed ok189 rfl ?_
  unfold c189
  dsimp only [argE,fieldV,fldC]
  refine W.run ?_
  simp [h]
theorem k146 (P g:Int) (A:List Int) (hA:A.length < 2 ^ 40) (hr:InF P A):PureC Tryz.prog 146 [fieldV P g,slI A] (fun r=>r = .bool true):=by
 have c1:=k180 (V.int .i64) A A.length rfl hA 189 [.fp [fieldV P g] 0] (fun x=>decide (x < 0∨P≤x)) (fun _=>rfl) (by simp [V.atom]) (fun a _=>k189 P g a)
 have e:(A.any fun x=>decide (x < 0∨P≤x)) = false:=by
  rw [List.any_eq_false]
  intro x hx
  have:=hr x hx
  rw [decide_eq_true_eq];omega
 rw [e] at c1
 refine pureC_of_wp .x mixed ok146 rfl ?_
 unfold c146
 dsimp only [argE,fieldV,fldC] at c1 ⊢
 refine W.run ?_
 rfl
attribute [local go_sem] find_in find_out put_in
set_option maxRecDepth 10000 in
theorem k147 (A:List Int) (hA:A.length < 2 ^ 40) (hn:A.Nodup):PureC Tryz.prog 147 [slI A] (fun r=>r = .bool true):=by
 refine pureC_of_wp .x mixed ok147 rfl ?_
 unfold c147
 dsimp only [argE]
 refine W.run ?_
 refine W.lp (fun i:Nat=>[(3,.mp 8),(7,slI A),(8,.int .i64 (A.length:Int)),(9,.int .i64 (i:Int))]) (fun i=>Hp.put (fun _=>none) 8 { cells:=[],sz:=0,sp:=2,mp:=seenM (A.take i) }) (fun i=>i≤A.length) (fun i=>A.length - i) 0 rfl (HS.refl _) (by omega) ?_
 rintro i nx hi hnx
 by_cases hlt:i < A.length
 ·have hni:A[i] ∉ A.take i:=by
   intro h
   have h2:(A.take (i+1)).Nodup:=hn.sublist (List.take_sublist _ _)
   rw [← List.take_append_getElem hlt,nodup_snoc] at h2
   exact h2.2 h
  refine W.run ?_
  rw [seenM_snoc,List.take_append_getElem hlt]
  refine W.kl (i+1) rfl (HS.refl _) (by omega) (by omega) (by omega)
 ·have : i = A.length := by omega
  subst this
  refine W.run ?_
  rfl
end Go.Dp
namespace Go.Dp
open Go.RowKit Go.Proofs
attribute [local irreducible] wp wpOps wpOp1 CallW CallT kSeq kBlk kLoop kReg retP retR kAsg kRound kRf kCut kItr
set_option linter.unusedVariables false
set_option linter.unusedSimpArgs false
set_option maxRecDepth 10000 in
set_option maxHeartbeats 1000000 in
theorem k98 (P g:Int) (hp:PrimeI P) (hP:3≤P∧P < 2 ^ 31) (X Y:List Int) (hl:X.length = Y.length) (h0:X.length≠0) (hX:X.length≤200) (hrX:InF P X) (hrY:InF P Y) (hn:X.Nodup):PureC Tryz.prog 98 [fieldV P g,slI X,slI Y] (fun r=>r = .tup [slI (newtF P X Y [] [1]),.int .i64 0]):=by
 have c1:=k146 P g X (by omega) hrX
 have c2:=k146 P g Y (by omega) hrY
 have c3:=k147 X (by omega) hn
 have c4:PureC Tryz.prog 148 [fieldV P g,slI X,slI Y] (fun r=>r = slI (newtF P X Y [] [1])):=(k148 P g hp hP X Y hl hX hrX hrY hn).mono fun r h=>h.elim id fun h=>absurd (by rw [h.1];rfl) h0
 refine pureC_of_wp (.l [.x,.x]) mixed ok98 rfl ?_
 unfold c98
 dsimp only [argE,fieldV,fldC] at c1 c2 c4 ⊢
 refine W.run ?_
 rfl
set_option maxRecDepth 10000 in
theorem k176 (A:List Int) (n:Nat) (hn:n = A.length) (x:Int) (hA:A.length < 2 ^ 40):PureC Tryz.prog 176 [.sl (A.map (V.int .i64)) n,.int .i64 x] (fun r=>r = .int .i64 (idxI (fun a=>decide (a = x)) A 0)):=by
 subst hn
 refine pureC_of_wp .x mixed ok176 rfl ?_
 unfold c176
 dsimp only [argE]
 refine W.run ?_
 refine W.lp (fun i:Nat=>[(0,slI A),(1,.int .i64 x),(7,.int .i64 (A.length:Int)),(8,.int .i64 (i:Int))]) (fun _ _=>none) (fun i=>i≤A.length∧idxI (fun a=>decide (a = x)) A 0 = idxI (fun a=>decide (a = x)) (A.drop i) i) (fun i=>A.length - i) 0 rfl (HS.refl _) ⟨by omega,rfl⟩ ?_
 rintro i nx ⟨h1,h2⟩ hnx
 by_cases hi:i < A.length
 ·rw [idxI_drop hi] at h2
  by_cases he:A[i] = x
  ·rw [decide_eq_true he,if_pos rfl] at h2
   refine W.run ?_
   rw [h2]
  ·rw [decide_eq_false he] at h2
   refine W.run ?_
   exact W.kl (i+1) rfl (HS.refl _) (by omega) ⟨by omega,by simpa using h2⟩ (by omega)
 ·have hi2 : i = A.length := by omega
  subst hi2
  rw [List.drop_length] at h2
  refine W.run ?_
  rw [h2];rfl
theorem k138 (A:List Int) (n:Nat) (hn:n = A.length) (x:Int) (hA:A.length < 2 ^ 40):PureC Tryz.prog 138 [.sl (A.map (V.int .i64)) n,.int .i64 x] (fun r=>r = .bool (decide (x∈A))):=by
 have c1:=k176 A n hn x hA
 have h:=(idxI_any (q:=fun a=>decide (a = x)) A 0).1
 have h2:A.any (fun a=>decide (a = x)) = decide (x∈A):=by
  rw [Bool.eq_iff_iff];simp
 rw [h2] at h
 refine pureC_of_wp .x mixed ok138 rfl ?_
 unfold c138
 dsimp only [argE]
 by_cases hx:x∈A
 ·have:0≤idxI (fun a=>decide (a = x)) A 0:=h.2 (decide_eq_true hx)
  clear h
  refine W.run ?_
  rw [decide_eq_true hx]
 ·have:¬ 0≤idxI (fun a=>decide (a = x)) A 0:=fun e=>hx (of_decide_eq_true (h.1 e))
  clear h
  refine W.run ?_
  rw [decide_eq_false hx]
theorem k138n (x:Int):PureC Tryz.prog 138 [.nils,.int .i64 x] (fun r=>r = .bool (decide (x∈([]:List Int)))) :=
 (k138 [] 0 rfl x (by simp)).weak (.cons .nils (.cons (.refl _) .nil))
def NormI (l:List Int):Prop:=∀ h:0 < l.length,l[l.length - 1]≠0
theorem trimI_norm:∀ l,NormI (trimI l)
 | []=>fun h=>by simp [trimI] at h
 | a::l=>by
  have ih:=trimI_norm l
  unfold trimI
  split
  ·split
   ·intro h;simp at h
   ·intro h;simpa
  ·rename_i b m e
   rw [e] at ih
   intro h
   have:=ih (by simp)
   simpa using this
theorem newtF_norm {P:Int}:∀ (xs ys out zero:List Int),NormI out→NormI (newtF P xs ys out zero)
 | [],_,_,_,h=>by rw [newtF];exact h;simp
 | x::xs,[],_,_,h=>by rw [newtF];exact h;simp
 | x::xs,y::ys,out,zero,h=>by rw [newtF];exact newtF_norm xs ys _ _ (trimI_norm _)
theorem k177 (P g:Int) (A:List Int) (hA:A.length≤200) (hr:InF P A) (hn:NormI A):PureC Tryz.prog 177 [fieldV P g,slI A] (fun r=>r = .int .i64 0):=by
 have c1:=k146 P g A (by omega) hr
 refine pureC_of_wp .x mixed ok177 rfl ?_
 unfold c177
 dsimp only [argE]
 by_cases h0:0 < A.length
 ·have e : ((A.length : Int) - 1).toNat = A.length - 1 := by omega
  have h1 : A[((A.length : Int) - 1).toNat]'(by omega) ≠ 0 := by
   have:=hn h0
   simpa only [e] using this
  refine W.run ?_
  rfl
 ·refine W.run ?_
  rfl
theorem k179 (P g x:Int) (hP:3≤P∧P < 2 ^ 31) (hx:0≤x∧x < P):PureC Tryz.prog 179 [fieldV P g,.int .i64 x] (fun r=>r = .int .i64 x):=by
 have e1:x % P = x:=Int.emod_eq_of_lt hx.1 hx.2
 have e2:(x % P+P) % P = x:=by rw [e1,Int.add_emod_right,e1]
 have e3:0≤x % P∧x % P < P:=by omega
 refine pureC_of_wp .x mixed ok179 rfl ?_
 unfold c179
 dsimp only [argE,fieldV,fldC]
 refine W.run ?_
 rw [e2]
theorem k139 (P g x:Int) (hP:3≤P∧P < 2 ^ 31) (A:List Int) (hA:A.length≤200) (hr:InF P A) (hn:NormI A) (hx:0≤x∧x < P):PureC Tryz.prog 139 [fieldV P g,slI A,.int .i64 x] (fun r=>r = .tup [.int .i64 (valM P x A),.int .i64 0]):=by
 have c1:=k177 P g A hA hr hn
 have c2:=k179 P g x hP hx
 have c3:=k178 P x g hP A (by omega) hr hx (slI A) (.inl rfl)
 refine pureC_of_wp (.l [.x,.x]) mixed ok139 rfl ?_
 unfold c139
 dsimp only [argE]
 refine W.run ?_
 rfl
end Go.Dp
