import Derived.Test.YtlbjgnkjicifhaaGreatDpWk
namespace Go.Dp
open Go.RowKit Go.Proofs
attribute [local irreducible] wp wpOps wpOp1 CallW CallT kSeq kBlk kLoop kReg retP retR kAsg kRound kRf kCut kItr
set_option linter.unusedVariables false
set_option linter.unusedSimpArgs false
def tabN (n:Nat) (f:Nat→V):List V:=(List.range n).map f
def upd {α:Type} (f:Nat→α) (i:Nat) (v:α):Nat→α:=fun j=>if j = i then v else f j
@[go_sem] theorem upd_int {k:IntKind} {f:Nat→Int} {i:Nat} {v:Int}:upd (fun j=>V.int k (f j)) i (V.int k v) = fun j=>V.int k (upd f i v j):=by
 funext j;simp only [upd];split <;> rfl
@[go_sem] theorem upd_bool {f:Nat→Bool} {i:Nat} {v:Bool}:upd (fun j=>V.bool (f j)) i (V.bool v) = fun j=>V.bool (upd f i v j):=by
 funext j;simp only [upd];split <;> rfl
theorem tabN_len (n:Nat) (f:Nat→V):(tabN n f).length = n:=by simp [tabN]
theorem tabN_get {n i:Nat} {f:Nat→V} (h:i < n):(tabN n f)[i]? = some (f i):=by simp [tabN,h]
theorem tabN_set (n i:Nat) (f:Nat→V) (v:V):(tabN n f).set i v = tabN n (upd f i v):=by
 apply List.ext_getElem
 ·simp [tabN]
 ·intro j h1 h2
  simp only [tabN,List.length_set,List.length_map,List.length_range] at h1
  simp only [tabN,List.getElem_set,List.getElem_map,List.getElem_range,upd]
  split
  ·rename_i h;rw [if_pos h.symm]
  ·rename_i h;rw [if_neg (fun e=>h e.symm)]
theorem tabN_replicate (n:Nat) (v:V):List.replicate n v = tabN n (fun _=>v):=by
 apply List.ext_getElem
 ·simp [tabN]
 ·intro j h1 h2;simp [tabN]
theorem put_set {l:List V} {k:Nat} {v:V} (h:k < l.length):l.take k++[v]++l.drop (k+1) = l.set k v:=by
 rw [List.set_eq_take_append_cons_drop,if_pos h];simp
def stC (hd:List V) (F D C A:Nat→V):List V:=hd++(tabN 17 F++(tabN 17 D++(tabN 289 C++tabN 289 A)))
section
variable {hd:List V} {F D C A:Nat→V} {i n m:Nat} {v:V}
@[go_sem] theorem stC_len (hh:hd.length = 10):(stC hd F D C A).length = 622:=by simp [stC,tabN_len,hh]
@[go_sem] theorem stC_gF (hh:hd.length = 10) (h:i < 17):(stC hd F D C A)[10+i]? = some (F i):=by
 rw [stC,List.getElem?_append_right (by omega),List.getElem?_append_left (by simp only [tabN_len];omega),show 10+i - hd.length = i by omega,tabN_get h]
@[go_sem] theorem stC_gD (hh:hd.length = 10) (h:i < 17):(stC hd F D C A)[27+i]? = some (D i):=by
 rw [stC,List.getElem?_append_right (by omega),List.getElem?_append_right (by simp only [tabN_len];omega),List.getElem?_append_left (by simp only [tabN_len];omega),tabN_len,show 27+i - hd.length - 17 = i by omega,tabN_get h]
@[go_sem] theorem stC_gC (hh:hd.length = 10) (h:n < 17∧m < 17):(stC hd F D C A)[44+n * 17+m]? = some (C (n * 17+m)):=by
 rw [stC,List.getElem?_append_right (by omega),List.getElem?_append_right (by simp only [tabN_len];omega),List.getElem?_append_right (by simp only [tabN_len];omega),List.getElem?_append_left (by simp only [tabN_len];omega),tabN_len,tabN_len,show 44+n * 17+m - hd.length - 17 - 17 = n * 17+m by omega,tabN_get (by omega)]
@[go_sem] theorem stC_gA (hh:hd.length = 10) (h:n < 17∧m < 17):(stC hd F D C A)[333+n * 17+m]? = some (A (n * 17+m)):=by
 rw [stC,List.getElem?_append_right (by omega),List.getElem?_append_right (by simp only [tabN_len];omega),List.getElem?_append_right (by simp only [tabN_len];omega),List.getElem?_append_right (by simp only [tabN_len];omega),tabN_len,tabN_len,tabN_len,show 333+n * 17+m - hd.length - 17 - 17 - 289 = n * 17+m by omega,tabN_get (by omega)]
theorem stC_set (hh:hd.length = 10) (hi:i < 622):(stC hd F D C A).take i++[v]++(stC hd F D C A).drop (i+1) = (stC hd F D C A).set i v:=put_set (by rw [stC_len hh];exact hi)
@[go_sem] theorem stC_sF (hh:hd.length = 10) (h:i < 17):(stC hd F D C A).take (10+i)++[v]++(stC hd F D C A).drop (10+i+1) = stC hd (upd F i v) D C A:=by
 rw [stC_set hh (by omega),stC,List.set_append_right _ _ (by omega),List.set_append_left _ _ (by simp only [tabN_len];omega),show 10+i - hd.length = i by omega,tabN_set];rfl
@[go_sem] theorem stC_sD (hh:hd.length = 10) (h:i < 17):(stC hd F D C A).take (27+i)++[v]++(stC hd F D C A).drop (27+i+1) = stC hd F (upd D i v) C A:=by
 rw [stC_set hh (by omega),stC,List.set_append_right _ _ (by omega),List.set_append_right _ _ (by simp only [tabN_len];omega),List.set_append_left _ _ (by simp only [tabN_len];omega),tabN_len,show 27+i - hd.length - 17 = i by omega,tabN_set];rfl
@[go_sem] theorem stC_sC (hh:hd.length = 10) (h:n < 17∧m < 17):(stC hd F D C A).take (44+n * 17+m)++[v]++(stC hd F D C A).drop (44+n * 17+m+1) = stC hd F D (upd C (n * 17+m) v) A:=by
 rw [stC_set hh (by omega),stC,List.set_append_right _ _ (by omega),List.set_append_right _ _ (by simp only [tabN_len];omega),List.set_append_right _ _ (by simp only [tabN_len];omega),List.set_append_left _ _ (by simp only [tabN_len];omega),tabN_len,tabN_len,show 44+n * 17+m - hd.length - 17 - 17 = n * 17+m by omega,tabN_set];rfl
@[go_sem] theorem stC_sA (hh:hd.length = 10) (h:n < 17∧m < 17):(stC hd F D C A).take (333+n * 17+m)++[v]++(stC hd F D C A).drop (333+n * 17+m+1) = stC hd F D C (upd A (n * 17+m) v):=by
 rw [stC_set hh (by omega),stC,List.set_append_right _ _ (by omega),List.set_append_right _ _ (by simp only [tabN_len];omega),List.set_append_right _ _ (by simp only [tabN_len];omega),List.set_append_right _ _ (by simp only [tabN_len];omega),tabN_len,tabN_len,tabN_len,show 333+n * 17+m - hd.length - 17 - 17 - 289 = n * 17+m by omega,tabN_set];rfl
end
abbrev lnK (x:Ln):List V:=[.int .i64 x.hall,.int .i64 x.kind,.int .i64 x.other,slI x.nums]
def linC:List Ln→List V
 | []=>[]
 | x::l=>lnK x++linC l
theorem linC_len:∀ l,(linC l).length = 4 * l.length
 | []=>rfl
 | p::l=>by simp [linC,linC_len l];omega
theorem linC_get:∀ {l:List Ln} {i:Nat} (h:i < l.length),((linC l).drop (i * 4)).take 4 = lnK l[i]
 | p::l,0,h=>by simp [linC]
 | p::l,i+1,h=>by
  have:=linC_get (l:=l) (i:=i) (by simpa using h)
  rw [show (i+1) * 4 = 4+i * 4 by omega,← List.drop_drop]
  simpa [linC] using this
@[go_sem] theorem linC_get' {l:List Ln} {i:Nat} (h:i < l.length):List.take 4 (List.drop (i * 4) (linC l)) = lnK l[i]:=linC_get h
@[go_sem] theorem linC_le {l:List Ln}:(linC l).length = 4 * l.length:=linC_len l
theorem linC_app:∀ (l m:List Ln),linC (l++m) = linC l++linC m
 | [],m=>rfl
 | x::l,m=>by simp [linC,linC_app l m]
abbrev linV (l:List Ln):V:=.sl (linC l) l.length
structure Brd where
 d:List Ln
 c:List Ln
 a:List Ln
 r:List Ln
def LnsB (l:List Ln):Prop:=l.length < 2 ^ 20∧∀ x∈l,x.nums.length < 2 ^ 20∧∀ n∈x.nums,B64 n
def Brd.Ok (b:Brd):Prop:=LnsB b.d∧LnsB b.c∧LnsB b.a∧LnsB b.r
abbrev bdV (b:Brd):V:=.agg [linV b.d,linV b.c,linV b.a,linV b.r]
theorem linC_lnsC:∀ l:List Ln,linC l = lnsC (l.map fun x=>(x,slI x.nums))
 | []=>rfl
 | x::l=>by simp [linC,lnsC,linC_lnsC l]
structure Cf where
 R:Int
 P:Int
 G:Int
 H:Int
 B:Int
 K:Int
abbrev Cf.v (c:Cf):V:=cfgV c.R c.P c.G c.H c.B c.K
def Cf.Ok (c:Cf):Prop:=GroupI c.R c.P c.G∧CfgI c.P c.H c.B c.K
def qDeal (c:Cf) (h:Int) (x:Ln):Bool:=cntB c.H x 1 (c.B+1) false && decide (x.hall = h)
def qCompl (c:Cf) (h k:Int) (x:Ln):Bool:=cntB c.H x 2 0 true && decide (x.hall = h) && decide (x.other = k)
def qAns (c:Cf) (h k:Int) (x:Ln):Bool:=cntB c.H x 3 1 true && decide (x.hall = h) && decide (x.other = k)
def fstI (q:Ln→Bool) (l:List Ln):Int:=match l.findIdx? q with
 | some i=>(i:Int)
 | none=>-1
theorem fstI_ge (q:Ln→Bool) (l:List Ln):-1≤fstI q l:=by unfold fstI;split <;> omega
theorem fstI_snoc (q:Ln→Bool) (l:List Ln) (x:Ln):fstI q (l++[x]) = if fstI q l < 0 then (if q x then (l.length:Int) else -1) else fstI q l:=by
 unfold fstI
 rw [List.findIdx?_append]
 cases h:l.findIdx? q with
 | some i=>simp;omega
 | none=>cases hx:q x <;> simp [hx]
theorem fstI_find (q:Ln→Bool) (l:List Ln):fstI q l < 0↔l.find? q = none:=by
 unfold fstI
 rw [List.find?_eq_none]
 cases h:l.findIdx? q with
 | some i =>
  rw [List.findIdx?_eq_some_iff_getElem] at h
  obtain ⟨h1,h2,_⟩:=h
  constructor
  ·intro h;simp at h;omega
  ·intro h;exact absurd h2 (h _ (List.getElem_mem h1))
 | none =>
  rw [List.findIdx?_eq_none_iff] at h
  simp;intro x hx;simp [h x hx]
def Brd.first (c:Cf) (b:Brd) (h:Int):Int:=fstI (qDeal c h) b.d
def dealL (c:Cf) (l:List Ln) (h:Int):Option (List Int):=match l.find? (qDeal c h) with
 | some x=>if x.nums.all (hasB c.R c.P) then some x.nums else none
 | none=>none
def optV:Option (List Int)→V
 | some A=>slI A
 | none=>.nils
@[go_sem] theorem optV_none:optV none = .nils:=rfl
@[go_sem] theorem optV_some {A:List Int}:optV (some A) = slI A:=rfl
@[go_sem] theorem upd_opt {f:Nat→Option (List Int)} {i:Nat} {A:List Int}:upd (fun j=>optV (f j)) i (slI A) = fun j=>optV (upd f i (some A) j):=by
 funext j;simp only [upd];split <;> rfl
def Brd.deal (c:Cf) (b:Brd) (h:Int):Option (List Int):=dealL c b.d h
def Brd.compl (c:Cf) (b:Brd) (h k:Int):Bool:=(b.deal c k).isSome && b.c.any (qCompl c h k)
def Brd.ans (c:Cf) (b:Brd) (h k:Int):Int:=fstI (qAns c h k) b.a
def hdC (c:Cf) (b:Brd):List V:=[.int .i64 c.R,.int .i64 c.P,.int .i64 c.G,.int .i64 c.H,.int .i64 c.B,.int .i64 c.K,linV b.d,linV b.c,linV b.a,linV b.r]
def stB (c:Cf) (b:Brd):List V:=stC (hdC c b) (fun i=>.int .i64 (b.first c i)) (fun i=>optV (b.deal c i)) (fun i=>.bool (b.compl c ((i / 17:Nat):Int) ((i % 17:Nat):Int))) (fun i=>.int .i64 (b.ans c ((i / 17:Nat):Int) ((i % 17:Nat):Int)))
theorem stC_congr {hd:List V} {F D C A F' D' C' A':Nat→V} (h1:∀ i,i < 17→F i = F' i) (h2:∀ i,i < 17→D i = D' i) (h3:∀ i,i < 289→C i = C' i) (h4:∀ i,i < 289→A i = A' i):stC hd F D C A = stC hd F' D' C' A':=by
 have e:∀ (n:Nat) (f g:Nat→V),(∀ i,i < n→f i = g i)→tabN n f = tabN n g:=fun n f g h=>List.map_congr_left fun i hi=>h i (List.mem_range.1 hi)
 rw [stC,stC,e _ _ _ h1,e _ _ _ h2,e _ _ _ h3,e _ _ _ h4]
theorem fstI_neg {q:Ln→Bool} {l:List Ln} (h:fstI q l < 0):fstI q l = -1:=by have:=fstI_ge q l;omega
theorem fstI_skip {q:Ln→Bool} {l:List Ln} {x:Ln} (h:q x = false):fstI q (l++[x]) = fstI q l:=by
 rw [fstI_snoc,h]
 split
 ·rename_i h;rw [fstI_neg h];rfl
 ·rfl
theorem dealL_snoc (c:Cf) (l:List Ln) (h:Int) (x:Ln):dealL c (l++[x]) h = if fstI (qDeal c h) l < 0 then (if qDeal c h x then (if x.nums.all (hasB c.R c.P) then some x.nums else none) else none) else dealL c l h:=by
 unfold dealL
 rw [List.find?_append]
 cases hf:l.find? (qDeal c h) with
 | none =>
  rw [if_pos ((fstI_find _ _).2 hf)]
  cases hx:qDeal c h x <;> simp [hx]
 | some y =>
  have:¬ fstI (qDeal c h) l < 0:=fun e=>by rw [(fstI_find _ _).1 e] at hf;cases hf
  rw [if_neg this];rfl
theorem dealL_neg {c:Cf} {l:List Ln} {h:Int} (hf:fstI (qDeal c h) l < 0):dealL c l h = none:=by
 unfold dealL;rw [(fstI_find _ _).1 hf]
theorem dealL_skip {c:Cf} {l:List Ln} {h:Int} {x:Ln} (hq:qDeal c h x = false):dealL c (l++[x]) h = dealL c l h:=by
 rw [dealL_snoc,hq];split
 ·rename_i h;rw [dealL_neg h];rfl
 ·rfl
theorem cntB_hall {H kind n:Int} {a:Bool} {x:Ln} (h:cntB H x kind n a = true):1≤x.hall∧x.hall≤H∧x.kind = kind∧(x.nums.length:Int) = n:=by
 simp [cntB,isHallB] at h;omega
theorem cntB_other {H kind n:Int} {x:Ln} (h:cntB H x kind n true = true):1≤x.other∧x.other≤H∧x.other≠x.hall:=by
 simp [cntB,isHallB] at h;omega
theorem dealL_len {c:Cf} {l:List Ln} {h:Int} {A:List Int} (e:dealL c l h = some A):(A.length:Int) = c.B+1:=by
 unfold dealL at e
 cases hf:l.find? (qDeal c h) with
 | none=>rw [hf] at e;cases e
 | some x =>
  rw [hf] at e
  simp only at e
  split at e
  ·cases e
   have:=List.find?_some hf
   simp only [qDeal,Bool.and_eq_true] at this
   exact (cntB_hall this.1).2.2.2
  ·cases e
abbrev stV (c:Cf) (b:Brd):V:=.fp (stB c b) 0
end Go.Dp
namespace Go.Dp
open Go.RowKit Go.Proofs
--
attribute [local irreducible] wp wpOps wpOp1 CallW CallT kSeq kBlk kLoop kReg retP retR kAsg kRound kRf kCut kItr
set_option linter.unusedVariables false
set_option linter.unusedSimpArgs false
theorem st0:(List.replicate 6 (V.int .i64 0)++[.nils,.nils,.nils,.nils]++List.replicate 17 (V.int .i64 0)++List.replicate 17 V.nils++List.replicate 289 (V.bool false)++List.replicate 289 (V.int .i64 0)) =
  stC [.int .i64 0,.int .i64 0,.int .i64 0,.int .i64 0,.int .i64 0,.int .i64 0,.nils,.nils,.nils,.nils] (fun _=>.int .i64 0) (fun _=>.nils) (fun _=>.bool false) (fun _=>.int .i64 0):=by
 simp only [stC,← tabN_replicate]
 simp only [List.append_assoc];rfl
theorem fill_st {cs vc:List V} {F D C A:Nat→V} {off size:Nat} (h:off+size≤cs.length):(stC cs F D C A).take off++vc++(stC cs F D C A).drop (off+size) = stC (cs.take off++vc++cs.drop (off+size)) F D C A:=by
 unfold stC
 rw [List.take_append_of_le_length (by omega),List.drop_append_of_le_length (by omega)];simp
@[go_sem high] theorem fillO_st {cs vc:List V} {F D C A:Nat→V} {off size:Nat} {rest:List (Nat × Nat × V)} (h:vc.length = size∧off+size≤cs.length):fillO (stC cs F D C A) off size rest (some vc) = fillV (stC (cs.take off++vc++cs.drop (off+size)) F D C A) rest:=by
 have:vc.length = size∧off+size≤(stC cs F D C A).length:=⟨h.1,by have:=h.2;simp [stC];omega⟩
 rw [fillO,if_pos this,fill_st h.2]
def hp58 (c:Cf) (b:Brd) (F D C A:Nat→V):Hp:=((Hp.put (fun _=>none) 0 { cells:=[.int .i64 c.R,.int .i64 c.P,.int .i64 c.G,.int .i64 c.H,.int .i64 c.B,.int .i64 c.K],sz:=6 }).put 8 { cells:=[linV b.d,linV b.c,linV b.a,linV b.r],sz:=4 }).put 48 { cells:=stC (hdC c b) F D C A,sz:=622 }
theorem k115 {R P G H B K:Int} (hg:GroupI R P G) (n:Int):PureC Tryz.prog 115 [.int .i64 n,.fp [.int .i64 R,.int .i64 P,.int .i64 G,.int .i64 H,.int .i64 B,.int .i64 K] 0] (fun r=>r = .bool (!hasB R P n)):=by
 have c1:=k116 hg n
 clear hg
 refine pureC_of_wp .x mixed ok115 rfl ?_
 unfold c115
 dsimp only [argE]
 refine W.run ?_
 rfl
theorem any_not_all {α:Type} (q:α→Bool) (l:List α):(l.any fun a=>!q a) = !l.all q:=by
 induction l with
 | nil=>rfl
 | cons a l ih=>simp [ih]
theorem has110 {R P G H B K:Int} (hg:GroupI R P G) (A:List Int) (hA:A.length < 2 ^ 40):PureC Tryz.prog 110 [slI A,.clo (.func 115) [] [.fp [.int .i64 R,.int .i64 P,.int .i64 G,.int .i64 H,.int .i64 B,.int .i64 K] 0]] (fun r=>r = .bool (!A.all (hasB R P))):=by
 rw [← any_not_all]
 exact k110 (V.int .i64) A _ rfl hA 115 [.fp [.int .i64 R,.int .i64 P,.int .i64 G,.int .i64 H,.int .i64 B,.int .i64 K] 0] (fun n=>!hasB R P n) (fun _=>rfl) (by simp [V.atom]) (fun a _=>k115 hg a)
theorem optV_atom:∀ o:Option (List Int),(optV o).atom = true
 | some _=>rfl
 | none=>rfl
theorem stB_atoms (c:Cf) (b:Brd):∀ v∈stB c b,v.atom = true:=by
 intro v hv
 simp only [stB,stC,hdC,tabN,List.mem_append,List.mem_map,List.mem_cons,List.not_mem_nil,or_false] at hv
 rcases hv with (rfl | rfl | rfl | rfl | rfl | rfl | rfl | rfl | rfl | rfl) | ⟨_,_,rfl⟩ | ⟨_,_,rfl⟩ | ⟨_,_,rfl⟩ | ⟨_,_,rfl⟩
 all_goals first | rfl | exact optV_atom _
theorem hp58_free {c:Cf} {b:Brd} {F D C A:Nat→V} {n:Nat} (h:56≤n):hp58 c b F D C A n = none:=by
 simp only [hp58,Hp.put];repeat (rw [if_neg (by omega)])
set_option maxRecDepth 10000 in
set_option maxHeartbeats 2000000 in
theorem k58 (c:Cf) (hc:c.Ok) (b:Brd) (hb:b.Ok):PureC Tryz.prog 58 [c.v,bdV b] (fun r=>r = stV c b):=by
 have hh:(hdC c b).length = 10:=rfl
 refine pureC_of_wp .x mixed ok58 rfl ?_
 unfold c58
 rw [st0]
 dsimp only [argE,Cf.v,cfgV]
 refine W.run ?_
 refine W.lp (fun y:Nat × (Nat→Int) × (Nat→Int)=>[(2,.ptr 0 0 0),(3,.ptr 8 0 0),(5,.ptr 48 0 0),(18,.int .i64 (y.1:Int))]) (fun y=>hp58 c b (fun j=>.int .i64 (y.2.1 j)) (fun _=>.nils) (fun _=>.bool false) (fun j=>.int .i64 (y.2.2 j)))
  (fun y=>y.1≤17∧(∀ j,y.2.1 j = if j < y.1 then -1 else 0)∧∀ q,y.2.2 q = if q < y.1 * 17 then -1 else 0) (fun y=>17 - y.1) (0,(fun _=>0),fun _=>0) rfl (HS.refl _) ⟨by dsimp only;omega,fun j=>by simp,fun q=>by simp⟩ ?_
 rintro ⟨i,F,A⟩ nx ⟨hi,hF,hA⟩ hnx
 dsimp only at hi hF hA ⊢
 by_cases hlt:i < 17
 ·unfold hp58
  refine W.run ?_
  refine W.lp (fun y:Nat × (Nat→Int)=>[(2,.ptr 0 0 0),(3,.ptr 8 0 0),(5,.ptr 48 0 0),(6,.int .i64 (i:Int)),(18,.int .i64 (i:Int)),(26,.int .i64 (y.1:Int))]) (fun y=>hp58 c b (fun j=>.int .i64 (upd F i (-1) j)) (fun _=>.nils) (fun _=>.bool false) (fun j=>.int .i64 (y.2 j)))
   (fun y=>y.1≤17∧∀ q,y.2 q = if q < i * 17+y.1 then -1 else 0) (fun y=>17 - y.1) (0,A) rfl (HS.refl _) ⟨by dsimp only;omega,hA⟩ ?_
  rintro ⟨k,A'⟩ nx' ⟨hk,hA'⟩ hnx'
  dsimp only at hk hA' ⊢
  by_cases hlk:k < 17
  ·unfold hp58
   refine W.run ?_
   refine W.kl (k+1,upd A' (i * 17+k) (-1)) rfl (HS.refl _) (by omega) ⟨by dsimp only;omega,fun q=>?_⟩ (by dsimp only;omega)
   dsimp only [upd]
   rw [hA' q]
   split <;> split <;> (try split) <;> omega
  ·unfold hp58
   refine W.run ?_
   refine W.kl (i+1,upd F i (-1),A') rfl (HS.refl _) (by omega) ⟨by dsimp only;omega,fun q=>?_,fun q=>?_⟩ (by dsimp only;omega)
   ·dsimp only [upd]
    rw [hF q]
    split <;> split <;> (try split) <;> omega
   ·dsimp only
    rw [hA' q,show i * 17+k = (i+1) * 17 by omega]
 ·have hi17 : i = 17 := by omega
  subst hi17
  unfold hp58
  refine W.run ?_
  obtain ⟨hg,hcf⟩:=hc
  have hH:c.H≤16:=hcf.1.2.1
  have hB:0≤c.B∧c.B < 16:=by have:=hcf.2.1;omega
  obtain ⟨hd,hco,han,hre⟩:=hb
  have chas:∀ i (hi:i < b.d.length),PureC Tryz.prog 110 [slI b.d[i].nums,.clo (.func 115) [] [.fp [.int .i64 c.R,.int .i64 c.P,.int .i64 c.G,.int .i64 c.H,.int .i64 c.B,.int .i64 c.K] 0]] (fun r=>r = .bool (!b.d[i].nums.all (hasB c.R c.P))):=fun i hi=>has110 hg _ (by have:=(hd.2 b.d[i] (List.getElem_mem hi)).1;omega)
  refine W.lp (fun y:Nat × (Nat→Int) × (Nat→Option (List Int))=>[(2,.ptr 0 0 0),(3,.ptr 8 0 0),(5,.ptr 48 0 0),(39,linV b.d),(40,.int .i64 (b.d.length:Int)),(41,.int .i64 (y.1:Int))]) (fun y=>hp58 c b (fun j=>.int .i64 (y.2.1 j)) (fun j=>optV (y.2.2 j)) (fun _=>.bool false) (fun j=>.int .i64 (A j)))
   (fun y=>y.1≤b.d.length∧∀ h,h < 17→y.2.1 h = fstI (qDeal c h) (b.d.take y.1)∧y.2.2 h = dealL c (b.d.take y.1) h) (fun y=>b.d.length - y.1) (0,F,fun _=>none) rfl (HS.refl _) ⟨by dsimp only;omega,fun h hh'=>⟨by dsimp only;rw [hF h,if_pos hh'];rfl,rfl⟩⟩ ?_
  rintro ⟨i,F1,D⟩ nx1 ⟨hi,hFD⟩ hnx1
  dsimp only at hi hFD ⊢
  by_cases hlt:i < b.d.length
  ·have c1 := k114 c.R c.P c.G c.H c.B c.K 1 (c.B + 1) b.d[i] (by have := (hd.2 b.d[i] (List.getElem_mem hlt)).1; omega) false (slI b.d[i].nums) (Or.inl rfl)
   have htk:=List.take_append_getElem hlt
   have hlen:=hd.1
   have htl:(b.d.take i).length = i:=by rw [List.length_take];omega
   clear hg hcf
   cases hcnt:cntB c.H b.d[i] 1 (c.B+1) false
   ·rw [hcnt] at c1
    unfold hp58
    refine W.run ?_
    refine W.kl (i+1,F1,D) rfl (HS.skip (HS.refl _) (hp58_free (by omega)) _) (by omega) ⟨by dsimp only;omega,fun h hh'=>?_⟩ (by dsimp only;omega)
    have hq:qDeal c h b.d[i] = false:=by rw [qDeal,hcnt];rfl
    dsimp only
    rw [← htk,fstI_skip hq,dealL_skip hq]
    exact hFD h hh'
   ·rw [hcnt] at c1
    have hx:=cntB_hall hcnt
    have hhl:b.d[i].hall.toNat < 17:=by omega
    have hFx:=hFD _ hhl
    unfold hp58
    by_cases hneg:F1 b.d[i].hall.toNat < 0
    ·rw [hFx.1] at hneg
     have hkey:∀ h:Nat,h < 17→upd F1 b.d[i].hall.toNat (i:Int) h = fstI (qDeal c h) (b.d.take (i+1))∧upd D b.d[i].hall.toNat (if b.d[i].nums.all (hasB c.R c.P) then some b.d[i].nums else none) h = dealL c (b.d.take (i+1)) h:=fun h hh'=>by
      rw [← htk,fstI_snoc,dealL_snoc,htl]
      simp only [upd]
      by_cases he:h = b.d[i].hall.toNat
      ·subst he
       have hq:qDeal c (b.d[i].hall.toNat:Int) b.d[i] = true:=by rw [qDeal,hcnt,Bool.true_and];exact decide_eq_true (by omega)
       rw [if_pos rfl,if_pos rfl,if_pos hneg,if_pos hneg,if_pos hq,if_pos hq];exact ⟨rfl,rfl⟩
      ·have hq : qDeal c (h : Int) b.d[i] = false := by rw [qDeal, hcnt, Bool.true_and]; exact decide_eq_false (by omega)
       rw [if_neg he,if_neg he,hq]
       have:=hFD h hh'
       rw [this.1,this.2]
       constructor
       ·split
        ·rename_i h1;rw [fstI_neg h1];rfl
        ·rfl
       ·split
        ·rename_i h1;rw [dealL_neg h1];rfl
        ·rfl
     rw [← hFx.1] at hneg
     have c2:=chas i hlt
     clear chas
     cases hall:b.d[i].nums.all (hasB c.R c.P)
     ·rw [hall] at c2 hkey
      refine W.run ?_
      refine W.kl (i+1,upd F1 b.d[i].hall.toNat i,D) rfl (HS.skip (HS.refl _) (hp58_free (by omega)) _) (by omega) ⟨by dsimp only;omega,fun h hh'=>?_⟩ (by dsimp only;omega)
      have:=hkey h hh'
      refine ⟨this.1,?_⟩
      rw [← this.2]
      simp only [upd]
      split
      ·rename_i e;rw [e,hFx.2,dealL_neg (hFx.1 ▸ hneg)];rfl
      ·rfl
     ·rw [hall] at c2 hkey
      refine W.run ?_
      exact W.kl (i+1,upd F1 b.d[i].hall.toNat i,upd D b.d[i].hall.toNat (some b.d[i].nums)) rfl (HS.skip (HS.refl _) (hp58_free (by omega)) _) (by omega) ⟨by dsimp only;omega,fun h hh'=>hkey h hh'⟩ (by dsimp only;omega)
    ·refine W.run ?_
     refine W.kl (i+1,F1,D) rfl (HS.skip (HS.refl _) (hp58_free (by omega)) _) (by omega) ⟨by dsimp only;omega,fun h hh'=>?_⟩ (by dsimp only;omega)
     dsimp only
     rw [← htk]
     by_cases he:h = b.d[i].hall.toNat
     ·subst he
      rw [hFx.1] at hneg
      rw [fstI_snoc,dealL_snoc,if_neg hneg,if_neg hneg];exact hFx
     ·have hq : qDeal c (h : Int) b.d[i] = false := by rw [qDeal, hcnt, Bool.true_and]; exact decide_eq_false (by omega)
      rw [fstI_skip hq,dealL_skip hq];exact hFD h hh'
  ·have hid : i = b.d.length := by omega
   subst hid
   rw [List.take_length] at hFD
   have hlen:=hd.1
   clear chas hg hcf hF
   unfold hp58
   refine W.run ?_
   refine W.lp (fun y:Nat × (Nat→Bool)=>[(2,.ptr 0 0 0),(3,.ptr 8 0 0),(5,.ptr 48 0 0),(84,linV b.c),(85,.int .i64 (b.c.length:Int)),(86,.int .i64 (y.1:Int))]) (fun y=>hp58 c b (fun j=>.int .i64 (F1 j)) (fun j=>optV (D j)) (fun j=>.bool (y.2 j)) (fun j=>.int .i64 (A j)))
    (fun y=>y.1≤b.c.length∧∀ h,h < 289→y.2 h = ((b.deal c ((h % 17:Nat):Int)).isSome && (b.c.take y.1).any (qCompl c ((h / 17:Nat):Int) ((h % 17:Nat):Int)))) (fun y=>b.c.length - y.1) (0,fun _=>false) rfl (HS.refl _) ⟨by dsimp only;omega,fun h hh'=>by simp⟩ ?_
   rintro ⟨i,C⟩ nx2 ⟨hi2,hC⟩ hnx2
   dsimp only at hi2 hC ⊢
   by_cases hlt2:i < b.c.length
   ·have c1 := k114 c.R c.P c.G c.H c.B c.K 2 0 b.c[i] (by have := (hco.2 b.c[i] (List.getElem_mem hlt2)).1; omega) true (slI b.c[i].nums) (Or.inl rfl)
    have htk:=List.take_append_getElem hlt2
    have hlenc:=hco.1
    cases hcnt:cntB c.H b.c[i] 2 0 true
    ·rw [hcnt] at c1
     unfold hp58
     refine W.run ?_
     refine W.kl (i+1,C) rfl (HS.skip (HS.refl _) (hp58_free (by omega)) _) (by omega) ⟨by dsimp only;omega,fun h hh'=>?_⟩ (by dsimp only;omega)
     have hq:qCompl c ((h / 17:Nat):Int) ((h % 17:Nat):Int) b.c[i] = false:=by rw [qCompl,hcnt];rfl
     dsimp only
     rw [← htk,List.any_append,hC h hh',List.any_cons,hq,List.any_nil,Bool.or_self,Bool.or_false]
    ·rw [hcnt] at c1
     have hx:=cntB_hall hcnt
     have hy:=cntB_other hcnt
     have hhl:b.c[i].hall.toNat < 17:=by omega
     have hol:b.c[i].other.toNat < 17:=by omega
     have hDo:=(hFD _ hol).2
     have hdo:b.deal c (b.c[i].other.toNat:Int) = D b.c[i].other.toNat:=hDo.symm
     cases hdl:D b.c[i].other.toNat with
     | none =>
      unfold hp58
      refine W.run ?_
      rw [hdl]
      refine W.run ?_
      refine W.kl (i+1,C) rfl (HS.skip (HS.refl _) (hp58_free (by omega)) _) (by omega) ⟨by dsimp only;omega,fun h hh'=>?_⟩ (by dsimp only;omega)
      dsimp only
      rw [← htk,List.any_append,hC h hh']
      by_cases he:h % 17 = b.c[i].other.toNat
      ·rw [he,hdo,hdl];rfl
      ·have hq:qCompl c ((h / 17:Nat):Int) ((h % 17:Nat):Int) b.c[i] = false:=by
        rw [qCompl,hcnt,Bool.true_and,decide_eq_false (p:=b.c[i].other = ((h % 17:Nat):Int)) (by omega),Bool.and_false]
       rw [List.any_cons,hq,List.any_nil,Bool.or_self,Bool.or_false]
     | some A0 =>
      have hA0:0 < A0.length:=by have:=dealL_len (hDo.symm.trans hdl);omega
      unfold hp58
      refine W.run ?_
      rw [hdl]
      refine W.run ?_
      refine W.kl (i+1,upd C (b.c[i].hall.toNat * 17+b.c[i].other.toNat) true) rfl (HS.skip (HS.refl _) (hp58_free (by omega)) _) (by omega) ⟨by dsimp only;omega,fun h hh'=>?_⟩ (by dsimp only;omega)
      dsimp only [upd]
      rw [← htk,List.any_append,hC h hh',List.any_cons,List.any_nil,Bool.or_false]
      by_cases he:h = b.c[i].hall.toNat * 17+b.c[i].other.toNat
      ·have hq:qCompl c ((h / 17:Nat):Int) ((h % 17:Nat):Int) b.c[i] = true:=by
        rw [qCompl,hcnt,Bool.true_and,decide_eq_true (p:=b.c[i].other = ((h % 17:Nat):Int)) (by omega),Bool.and_true]
        exact decide_eq_true (by omega)
       have h17:h % 17 = b.c[i].other.toNat:=by omega
       rw [if_pos he,hq,h17,hdo,hdl,Bool.or_true];rfl
      ·have hq:qCompl c ((h / 17:Nat):Int) ((h % 17:Nat):Int) b.c[i] = false:=by
        rw [qCompl,hcnt,Bool.true_and,← Bool.decide_and]
        exact decide_eq_false (by omega)
       rw [if_neg he,hq,Bool.or_false]
   ·have hid : i = b.c.length := by omega
    subst hid
    rw [List.take_length] at hC
    have hlen:=hco.1
    unfold hp58
    refine W.run ?_
    refine W.lp (fun y:Nat × (Nat→Int)=>[(2,.ptr 0 0 0),(5,.ptr 48 0 0),(114,linV b.a),(115,.int .i64 (b.a.length:Int)),(116,.int .i64 (y.1:Int))]) (fun y=>hp58 c b (fun j=>.int .i64 (F1 j)) (fun j=>optV (D j)) (fun j=>.bool (C j)) (fun j=>.int .i64 (y.2 j)))
     (fun y=>y.1≤b.a.length∧∀ h,h < 289→y.2 h = fstI (qAns c ((h / 17:Nat):Int) ((h % 17:Nat):Int)) (b.a.take y.1)) (fun y=>b.a.length - y.1) (0,A) rfl (HS.refl _) ⟨by dsimp only;omega,fun h hh'=>by dsimp only;rw [hA h,if_pos (by omega)];rfl⟩ ?_
    rintro ⟨i,A1⟩ nx3 ⟨hi3,hA1⟩ hnx3
    dsimp only at hi3 hA1 ⊢
    by_cases hlt3:i < b.a.length
    ·have c1 := k114 c.R c.P c.G c.H c.B c.K 3 1 b.a[i] (by have := (han.2 b.a[i] (List.getElem_mem hlt3)).1; omega) true (slI b.a[i].nums) (Or.inl rfl)
     have htk:=List.take_append_getElem hlt3
     have hlena:=han.1
     have htl:(b.a.take i).length = i:=by rw [List.length_take];omega
     cases hcnt:cntB c.H b.a[i] 3 1 true
     ·rw [hcnt] at c1
      unfold hp58
      refine W.run ?_
      refine W.kl (i+1,A1) rfl (HS.skip (HS.refl _) (hp58_free (by omega)) _) (by omega) ⟨by dsimp only;omega,fun h hh'=>?_⟩ (by dsimp only;omega)
      have hq:qAns c ((h / 17:Nat):Int) ((h % 17:Nat):Int) b.a[i] = false:=by rw [qAns,hcnt];rfl
      dsimp only
      rw [← htk,fstI_skip hq];exact hA1 h hh'
     ·rw [hcnt] at c1
      have hx:=cntB_hall hcnt
      have hy:=cntB_other hcnt
      have hhl:b.a[i].hall.toNat < 17:=by omega
      have hol:b.a[i].other.toNat < 17:=by omega
      have hqi:∀ h:Nat,h < 289→qAns c ((h / 17:Nat):Int) ((h % 17:Nat):Int) b.a[i] = decide (h = b.a[i].hall.toNat * 17+b.a[i].other.toNat):=fun h hh'=>by
       rw [qAns,hcnt,Bool.true_and,← Bool.decide_and]
       exact decide_eq_decide.2 (by omega)
      by_cases hneg:A1 (b.a[i].hall.toNat * 17+b.a[i].other.toNat) < 0
      ·unfold hp58
       refine W.run ?_
       refine W.kl (i+1,upd A1 (b.a[i].hall.toNat * 17+b.a[i].other.toNat) i) rfl (HS.skip (HS.refl _) (hp58_free (by omega)) _) (by omega) ⟨by dsimp only;omega,fun h hh'=>?_⟩ (by dsimp only;omega)
       dsimp only [upd]
       rw [← htk,fstI_snoc,hqi h hh',htl]
       by_cases he:h = b.a[i].hall.toNat * 17+b.a[i].other.toNat
       ·rw [if_pos he,← hA1 h hh',he,if_pos hneg,decide_eq_true rfl];rfl
       ·rw [if_neg he,decide_eq_false he,hA1 h hh']
        split
        ·rename_i h1;rw [fstI_neg h1];rfl
        ·rfl
      ·unfold hp58
       refine W.run ?_
       refine W.kl (i+1,A1) rfl (HS.skip (HS.refl _) (hp58_free (by omega)) _) (by omega) ⟨by dsimp only;omega,fun h hh'=>?_⟩ (by dsimp only;omega)
       dsimp only
       rw [← htk,fstI_snoc,hqi h hh',htl]
       by_cases he:h = b.a[i].hall.toNat * 17+b.a[i].other.toNat
       ·rw [← hA1 h hh',he,if_neg hneg]
       ·rw [decide_eq_false he,hA1 h hh']
        split
        ·rename_i h1;rw [fstI_neg h1];rfl
        ·rfl
    ·have hid : i = b.a.length := by omega
     subst hid
     rw [List.take_length] at hA1
     have hlen:=han.1
     unfold hp58
     have hst:stC (hdC c b) (fun j=>.int .i64 (F1 j)) (fun j=>optV (D j)) (fun j=>.bool (C j)) (fun j=>.int .i64 (A1 j)) = stB c b:=by
      unfold stB
      refine stC_congr (fun h hh'=>?_) (fun h hh'=>?_) (fun h hh'=>?_) (fun h hh'=>?_)
      ·rw [(hFD h hh').1];rfl
      ·rw [(hFD h hh').2];rfl
      ·rw [hC h hh'];rfl
      ·rw [hA1 h hh'];rfl
     rw [hst]
     have hat:∀ v∈stB c b,v.atom = true:=stB_atoms c b
     refine W.run ?_
     rfl
end Go.Dp
namespace Go.Dp
open Go.RowKit Go.Proofs
attribute [local irreducible] wp wpOps wpOp1 CallW CallT kSeq kBlk kLoop kReg retP retR kAsg kRound kRf kCut kItr
set_option linter.unusedVariables false
set_option linter.unusedSimpArgs false
@[go_sem] theorem toNat_cast {z:Int} (h:0≤z):((z.toNat:Nat):Int) = z:=Int.toNat_of_nonneg h
section
variable {c:Cf} {b:Brd} {i n m:Nat}
@[go_sem] theorem stB_len:(stB c b).length = 622:=stC_len rfl
@[go_sem] theorem stB_first (h:i < 17):(stB c b)[10+i]? = some (.int .i64 (b.first c i)):=stC_gF rfl h
@[go_sem] theorem stB_deal (h:i < 17):(stB c b)[27+i]? = some (optV (b.deal c i)):=stC_gD rfl h
@[go_sem] theorem stB_compl (h:n < 17∧m < 17):(stB c b)[44+n * 17+m]? = some (.bool (b.compl c n m)):=by
 have:=stC_gC (hd:=hdC c b) (F:=fun i=>.int .i64 (b.first c i)) (D:=fun i=>optV (b.deal c i)) (C:=fun i=>.bool (b.compl c ((i / 17:Nat):Int) ((i % 17:Nat):Int))) (A:=fun i=>.int .i64 (b.ans c ((i / 17:Nat):Int) ((i % 17:Nat):Int))) rfl h
 rw [stB,this,show (n * 17+m) / 17 = n by omega,show (n * 17+m) % 17 = m by omega]
@[go_sem] theorem stB_ans (h:n < 17∧m < 17):(stB c b)[333+n * 17+m]? = some (.int .i64 (b.ans c n m)):=by
 have:=stC_gA (hd:=hdC c b) (F:=fun i=>.int .i64 (b.first c i)) (D:=fun i=>optV (b.deal c i)) (C:=fun i=>.bool (b.compl c ((i / 17:Nat):Int) ((i % 17:Nat):Int))) (A:=fun i=>.int .i64 (b.ans c ((i / 17:Nat):Int) ((i % 17:Nat):Int))) rfl h
 rw [stB,this,show (n * 17+m) / 17 = n by omega,show (n * 17+m) % 17 = m by omega]
@[go_sem] theorem stB_1:(stB c b)[1]? = some (.int .i64 c.P):=rfl
@[go_sem] theorem stB_3:(stB c b)[3]? = some (.int .i64 c.H):=rfl
@[go_sem] theorem stB_4:(stB c b)[4]? = some (.int .i64 c.B):=rfl
@[go_sem] theorem stB_6:(stB c b)[6]? = some (linV b.d):=rfl
@[go_sem] theorem stB_7:(stB c b)[7]? = some (linV b.c):=rfl
@[go_sem] theorem stB_8:(stB c b)[8]? = some (linV b.a):=rfl
@[go_sem] theorem stB_9:(stB c b)[9]? = some (linV b.r):=rfl
@[go_sem] theorem stB_t3:List.take 3 (stB c b) = [.int .i64 c.R,.int .i64 c.P,.int .i64 c.G]:=rfl
@[go_sem] theorem stB_t6:List.take 6 (stB c b) = [.int .i64 c.R,.int .i64 c.P,.int .i64 c.G,.int .i64 c.H,.int .i64 c.B,.int .i64 c.K]:=rfl
@[go_sem] theorem linC_3 {l:List Ln} (h:i < l.length):(linC l)[i * 4+3]? = some (slI l[i].nums):=by
 have:=linC_get h
 have e:((linC l).drop (i * 4)).take 4 = lnK l[i]:=this
 have:(((linC l).drop (i * 4)).take 4)[3]? = some (slI l[i].nums):=by rw [e];rfl
 rw [List.getElem?_take,if_pos (by omega),List.getElem?_drop] at this
 exact this
end
theorem find_mem {q:Ln→Bool} {l:List Ln} {x:Ln} (h:l.find? q = some x):x∈l:=List.mem_of_find?_eq_some h
theorem deal_ok {c:Cf} {b:Brd} (hb:b.Ok) {h:Int} {A:List Int} (e:b.deal c h = some A):(A.length:Int) = c.B+1∧(∀ n∈A,B64 n)∧A.all (hasB c.R c.P) = true∧A.length < 2 ^ 20:=by
 refine ⟨dealL_len e,?_⟩
 unfold Brd.deal dealL at e
 cases hf:b.d.find? (qDeal c h) with
 | none=>rw [hf] at e;cases e
 | some x =>
  rw [hf] at e
  simp only at e
  split at e
  ·rename_i h2
   cases e
   have:=hb.1.2 x (find_mem hf)
   exact ⟨this.2,h2,this.1⟩
  ·cases e
theorem fstI_get {q:Ln→Bool} {l:List Ln} (h:0≤fstI q l):∃ hi:(fstI q l).toNat < l.length,l.find? q = some (l[(fstI q l).toNat]'hi):=by
 unfold fstI at h ⊢
 cases hf:l.findIdx? q with
 | none=>rw [hf] at h;simp at h
 | some i =>
  obtain ⟨h1,h2,h3⟩:=List.findIdx?_eq_some_iff_getElem.1 hf
  refine ⟨h1,?_⟩
  show l.find? q = some l[i]
  rw [List.find?_eq_some_iff_getElem]
  exact ⟨h2,i,h1,rfl,fun j hj=>by simpa using h3 j hj⟩
def fitsM (c:Cf) (b:Brd) (h x n:Int):Bool:=match b.deal c h with
 | some A=>fitB c.R c.P c.G A x n
 | none=>false
def ansL (c:Cf) (b:Brd) (h k:Int):Option Ln:=b.a.find? (qAns c h k)
def ansN (c:Cf) (b:Brd) (h k:Int):Int:=match ansL c b h k with
 | some x=>x.nums.headD 0
 | none=>0
def ansB (c:Cf) (b:Brd) (h k:Int):Bool:=match ansL c b h k with
 | some x=>fitsM c b h k (x.nums.headD 0)
 | none=>false
def rngH (n:Nat):List Int:=(List.range n).map fun i:Nat=>(i:Int)+1
def isInM (c:Cf) (b:Brd) (h:Int):Bool:=(b.deal c h).isSome && (rngH c.H.toNat).all fun j=>!b.compl c j h || ansB c b h j
theorem Cf.Ok.rng {c:Cf} (h:c.Ok):(2≤c.H∧c.H≤16∧c.H < c.P)∧(0≤c.B∧c.B < c.H):=⟨h.2.1,h.2.2.1⟩
theorem k79 (c:Cf) (hc:c.Ok) (b:Brd) (hb:b.Ok) (h:Int) (hh:0≤h∧h≤16):PureC Tryz.prog 79 [stV c b,.int .i64 h] (fun r=>r = .bool (b.deal c h).isSome):=by
 have hr:=hc.rng
 have h0:∀ A,b.deal c h = some A→0 < A.length:=fun A e=>by have:=(deal_ok hb e).1;omega
 refine pureC_of_wp .x mixed ok79 rfl ?_
 unfold c79
 dsimp only [argE]
 cases hd:b.deal c h with
 | none =>
  refine W.run ?_
  rw [hd]
  refine W.run ?_
  rfl
 | some A =>
  have:=h0 A hd
  refine W.run ?_
  rw [hd]
  refine W.run ?_
  rfl
set_option maxRecDepth 10000 in
theorem k81 (c:Cf) (hc:c.Ok) (b:Brd) (hb:b.Ok) (h x n:Int) (hh:0≤h∧h≤16):PureC Tryz.prog 81 [stV c b,.int .i64 h,.int .i64 x,.int .i64 n] (fun r=>r = .bool (fitsM c b h x n)):=by
 have hr:=hc.rng
 have h0:∀ A,b.deal c h = some A→0 < A.length∧PureC Tryz.prog 128 [grp c.R c.P c.G,slI A,.int .i64 x,.int .i64 n] (fun r=>r = .bool (fitB c.R c.P c.G A x n)):=fun A e=>by
  have:=deal_ok hb e
  exact ⟨by omega,k128 hc.1 A _ rfl (by omega) this.2.1 x n⟩
 refine pureC_of_wp .x mixed ok81 rfl ?_
 unfold c81 fitsM
 dsimp only [argE]
 cases hd:b.deal c h with
 | none =>
  refine W.run ?_
  rw [hd]
  refine W.run ?_
  rfl
 | some A =>
  obtain ⟨h1,h2⟩:=h0 A hd
  clear h0
  refine W.run ?_
  rw [hd]
  refine W.run ?_
  rw [hd]
  refine W.run ?_
  rfl
theorem ans_len {c:Cf} {h k:Int} {x:Ln} (e:qAns c h k x = true):x.nums.length = 1:=by
 simp only [qAns,Bool.and_eq_true] at e
 have:=(cntB_hall e.1.1).2.2.2
 omega
set_option maxRecDepth 10000 in
theorem k120 (c:Cf) (hc:c.Ok) (b:Brd) (hb:b.Ok) (h k:Int) (hh:0≤h∧h≤16) (hk:0≤k∧k≤16):PureC Tryz.prog 120 [stV c b,.int .i64 h,.int .i64 k] (fun r=>r = .tup [.int .i64 (ansN c b h k),.bool (ansB c b h k)]):=by
 have c1:=fun n=>k81 c hc b hb h k n hh
 have hbl:=hb.2.2.1.1
 refine pureC_of_wp (.l [.x,.x]) mixed ok120 rfl ?_
 unfold c120 ansN ansB ansL
 dsimp only [argE]
 by_cases hneg:b.ans c h k < 0
 ·rw [(fstI_find _ _).1 hneg]
  refine W.run ?_
  rfl
 ·obtain ⟨h1, h2⟩ := fstI_get (q := qAns c h k) (l := b.a) (by unfold Brd.ans at hneg; omega)
  have h3:=ans_len (List.find?_some h2)
  rw [h2]
  change (b.ans c h k).toNat < b.a.length at h1
  have h4:∃ n,b.a[(b.ans c h k).toNat].nums = [n]:=by
   cases hn:b.a[(b.ans c h k).toNat].nums with
   | nil=>have h3':b.a[(b.ans c h k).toNat].nums.length = 1:=h3;rw [hn] at h3';simp at h3'
   | cons n l =>
    cases l with
    | nil=>exact ⟨n,rfl⟩
    | cons _ _=>have h3':b.a[(b.ans c h k).toNat].nums.length = 1:=h3;rw [hn] at h3';simp at h3'
  obtain ⟨n,hn⟩:=h4
  have c1':=c1 n
  clear c1
  refine W.run ?_
  rw [hn]
  refine W.run ?_
  have e:b.a[(fstI (qAns c h k) b.a).toNat].nums = [n]:=hn
  simp only [e]
  rfl
theorem rngH_len (n:Nat):(rngH n).length = n:=by simp [rngH]
theorem rngH_mem {n:Nat} {x:Int}:x∈rngH n↔1≤x∧x≤n:=by
 simp only [rngH,List.mem_map,List.mem_range]
 constructor
 ·rintro ⟨i,h1,rfl⟩;omega
 ·rintro ⟨h1,h2⟩;exact ⟨(x - 1).toNat,by omega,by omega⟩
theorem rngH_succ (n:Nat):rngH (n+1) = rngH n++[(n:Int)+1]:=by simp [rngH,List.range_succ]
theorem rngH_all {n:Nat} {q:Int→Bool}:(rngH n).all q = true↔∀ k:Nat,k < n→q ((k:Int)+1) = true:=by
 rw [List.all_eq_true]
 constructor
 ·intro h k hk;exact h _ (rngH_mem.2 (by omega))
 ·intro h x hx
  have:=rngH_mem.1 hx
  have h2:=h (x - 1).toNat (by omega)
  rw [show (((x - 1).toNat:Nat):Int)+1 = x by omega] at h2;exact h2
set_option maxRecDepth 10000 in
theorem k74 (c:Cf) (hc:c.Ok) (b:Brd) (hb:b.Ok) (h:Int) (hh:0≤h∧h≤16):PureC Tryz.prog 74 [stV c b,.int .i64 h] (fun r=>r = .bool (isInM c b h)):=by
 have hr:=hc.rng
 have h0:∀ A,b.deal c h = some A→0 < A.length:=fun A e=>by have:=(deal_ok hb e).1;omega
 have c1:=fun k hk=>k120 c hc b hb h k hh hk
 refine pureC_of_wp .x mixed ok74 rfl ?_
 unfold c74 isInM
 dsimp only [argE]
 cases hd:b.deal c h with
 | none =>
  refine W.run ?_
  rw [hd]
  refine W.run ?_
  rfl
 | some A =>
  have h0':=h0 A hd
  clear h0
  refine W.run ?_
  rw [hd]
  refine W.run ?_
  refine W.lp (fun k:Nat=>[(0,stV c b),(1,.int .i64 h),(5,.int .i64 ((k:Int)+1))]) (fun _ _=>none) (fun k=>k≤c.H.toNat∧∀ j:Nat,j < k→(!b.compl c ((j:Int)+1) h || ansB c b h ((j:Int)+1)) = true) (fun k=>c.H.toNat - k) 0 rfl (HS.refl _) ⟨by omega,fun j hj=>by omega⟩ ?_
  rintro k nx ⟨h1,h2⟩ hnx
  by_cases hlt:k < c.H.toNat
  ·have c2 := c1 ((k : Int) + 1) (by omega)
   clear c1
   cases hq:(!b.compl c ((k:Int)+1) h || ansB c b h ((k:Int)+1))
   ·have hall:((rngH c.H.toNat).all fun j=>!b.compl c j h || ansB c b h j) = false:=by
     rw [Bool.eq_false_iff]
     intro e
     have:=rngH_all.1 e k hlt
     rw [hq] at this;cases this
    rw [hall]
    rw [Bool.or_eq_false_iff] at hq
    have hq1:b.compl c ((k:Int)+1) h = true:=by simpa using hq.1
    have hq2:=hq.2
    clear h2 hq
    refine W.run ?_
    rw [hq1,hq2]
    refine W.run ?_
    rfl
   ·have hn:∀ j:Nat,j < k+1→(!b.compl c ((j:Int)+1) h || ansB c b h ((j:Int)+1)) = true:=fun j hj=>by
     by_cases e:j = k
     ·rw [e];exact hq
     ·exact h2 j (by omega)
    clear h2
    rw [Bool.or_eq_true] at hq
    cases hb1:b.compl c ((k:Int)+1) h
    ·refine W.run ?_
     rw [hb1]
     refine W.run ?_
     exact W.kl (k+1) rfl (HS.refl _) (by omega) ⟨by omega,hn⟩ (by omega)
    ·have hb2 : ansB c b h ((k : Int) + 1) = true := by rw [hb1] at hq; simpa using hq
     refine W.run ?_
     rw [hb1,hb2]
     refine W.run ?_
     exact W.kl (k+1) rfl (HS.refl _) (by omega) ⟨by omega,hn⟩ (by omega)
  ·have hk : k = c.H.toNat := by omega
   subst hk
   have hall:((rngH c.H.toNat).all fun j=>!b.compl c j h || ansB c b h j) = true:=rngH_all.2 h2
   rw [hall]
   clear h2
   refine W.run ?_
   rfl
end Go.Dp
