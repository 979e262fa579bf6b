import Derived.Test.YtlbjgnkjicifhaaGreatDwB6
import Derived.Test.YtlbjgnkjicifhaaGreatDpWk
namespace Go.Dp
open Go.RowKit Go.Proofs
attribute [local irreducible] wp wpOps wpOp1 CallW CallT kSeq kBlk kLoop kReg retP retR kAsg kRound kRf kCut kItr
set_option linter.unusedVariables false
set_option linter.unusedSimpArgs false
def tabN (n:Nat) (f:Nat→V):List V:=(List.range n).map f
def upd {α:Type} (f:Nat→α) (i:Nat) (v:α):Nat→α:=fun j=>if j = i then v else f j
@[go_sem] theorem upd_int {k:IntKind} {f:Nat→Int} {i:Nat} {v:Int}:upd (fun j=>V.int k (f j)) i (V.int k v) = fun j=>V.int k (upd f i v j):=by
 funext j;simp only [upd];split <;> rfl
@[go_sem] theorem upd_bool {f:Nat→Bool} {i:Nat} {v:Bool}:upd (fun j=>V.bool (f j)) i (V.bool v) = fun j=>V.bool (upd f i v j):=by
 funext j;simp only [upd];split <;> rfl
theorem tabN_len (n:Nat) (f:Nat→V):(tabN n f).length = n:=by simp [tabN]
theorem tabN_get {n i:Nat} {f:Nat→V} (h:i < n):(tabN n f)[i]? = some (f i):=by simp [tabN,h]
theorem tabN_set (n i:Nat) (f:Nat→V) (v:V):(tabN n f).set i v = tabN n (upd f i v):=by
 apply List.ext_getElem
 ·simp [tabN]
 ·intro j h1 h2
  simp only [tabN,List.length_set,List.length_map,List.length_range] at h1
  simp only [tabN,List.getElem_set,List.getElem_map,List.getElem_range,upd]
  split
  ·rename_i h;rw [if_pos h.symm]
  ·rename_i h;rw [if_neg (fun e=>h e.symm)]
theorem tabN_replicate (n:Nat) (v:V):List.replicate n v = tabN n (fun _=>v):=by
 apply List.ext_getElem
 ·simp [tabN]
 ·intro j h1 h2;simp [tabN]
theorem put_set {l:List V} {k:Nat} {v:V} (h:k < l.length):l.take k++[v]++l.drop (k+1) = l.set k v:=by
 rw [List.set_eq_take_append_cons_drop,if_pos h];simp
def stC (hd:List V) (F D C A:Nat→V):List V:=hd++(tabN 17 F++(tabN 17 D++(tabN 289 C++tabN 289 A)))
section
variable {hd:List V} {F D C A:Nat→V} {i n m:Nat} {v:V}
@[go_sem] theorem stC_len (hh:hd.length = 10):(stC hd F D C A).length = 622:=by simp [stC,tabN_len,hh]
@[go_sem] theorem stC_gF (hh:hd.length = 10) (h:i < 17):(stC hd F D C A)[10+i]? = some (F i):=by
 rw [stC,List.getElem?_append_right (by omega),List.getElem?_append_left (by simp only [tabN_len];omega),show 10+i - hd.length = i by omega,tabN_get h]
@[go_sem] theorem stC_gD (hh:hd.length = 10) (h:i < 17):(stC hd F D C A)[27+i]? = some (D i):=by
 rw [stC,List.getElem?_append_right (by omega),List.getElem?_append_right (by simp only [tabN_len];omega),List.getElem?_append_left (by simp only [tabN_len];omega),tabN_len,show 27+i - hd.length - 17 = i by omega,tabN_get h]
@[go_sem] theorem stC_gC (hh:hd.length = 10) (h:n < 17∧m < 17):(stC hd F D C A)[44+n * 17+m]? = some (C (n * 17+m)):=by
 rw [stC,List.getElem?_append_right (by omega),List.getElem?_append_right (by simp only [tabN_len];omega),List.getElem?_append_right (by simp only [tabN_len];omega),List.getElem?_append_left (by simp only [tabN_len];omega),tabN_len,tabN_len,show 44+n * 17+m - hd.length - 17 - 17 = n * 17+m by omega,tabN_get (by omega)]
@[go_sem] theorem stC_gA (hh:hd.length = 10) (h:n < 17∧m < 17):(stC hd F D C A)[333+n * 17+m]? = some (A (n * 17+m)):=by
 rw [stC,List.getElem?_append_right (by omega),List.getElem?_append_right (by simp only [tabN_len];omega),List.getElem?_append_right (by simp only [tabN_len];omega),List.getElem?_append_right (by simp only [tabN_len];omega),tabN_len,tabN_len,tabN_len,show 333+n * 17+m - hd.length - 17 - 17 - 289 = n * 17+m by omega,tabN_get (by omega)]
theorem stC_set (hh:hd.length = 10) (hi:i < 622):(stC hd F D C A).take i++[v]++(stC hd F D C A).drop (i+1) = (stC hd F D C A).set i v:=put_set (by rw [stC_len hh];exact hi)
@[go_sem] theorem stC_sF (hh:hd.length = 10) (h:i < 17):(stC hd F D C A).take (10+i)++[v]++(stC hd F D C A).drop (10+i+1) = stC hd (upd F i v) D C A:=by
 rw [stC_set hh (by omega),stC,List.set_append_right _ _ (by omega),List.set_append_left _ _ (by simp only [tabN_len];omega),show 10+i - hd.length = i by omega,tabN_set];rfl
@[go_sem] theorem stC_sD (hh:hd.length = 10) (h:i < 17):(stC hd F D C A).take (27+i)++[v]++(stC hd F D C A).drop (27+i+1) = stC hd F (upd D i v) C A:=by
 rw [stC_set hh (by omega),stC,List.set_append_right _ _ (by omega),List.set_append_right _ _ (by simp only [tabN_len];omega),List.set_append_left _ _ (by simp only [tabN_len];omega),tabN_len,show 27+i - hd.length - 17 = i by omega,tabN_set];rfl
@[go_sem] theorem stC_sC (hh:hd.length = 10) (h:n < 17∧m < 17):(stC hd F D C A).take (44+n * 17+m)++[v]++(stC hd F D C A).drop (44+n * 17+m+1) = stC hd F D (upd C (n * 17+m) v) A:=by
 rw [stC_set hh (by omega),stC,List.set_append_right _ _ (by omega),List.set_append_right _ _ (by simp only [tabN_len];omega),List.set_append_right _ _ (by simp only [tabN_len];omega),List.set_append_left _ _ (by simp only [tabN_len];omega),tabN_len,tabN_len,show 44+n * 17+m - hd.length - 17 - 17 = n * 17+m by omega,tabN_set];rfl
@[go_sem] theorem stC_sA (hh:hd.length = 10) (h:n < 17∧m < 17):(stC hd F D C A).take (333+n * 17+m)++[v]++(stC hd F D C A).drop (333+n * 17+m+1) = stC hd F D C (upd A (n * 17+m) v):=by
 rw [stC_set hh (by omega),stC,List.set_append_right _ _ (by omega),List.set_append_right _ _ (by simp only [tabN_len];omega),List.set_append_right _ _ (by simp only [tabN_len];omega),List.set_append_right _ _ (by simp only [tabN_len];omega),tabN_len,tabN_len,tabN_len,show 333+n * 17+m - hd.length - 17 - 17 - 289 = n * 17+m by omega,tabN_set];rfl
end
abbrev lnK (x:Ln):List V:=[.int .i64 x.hall,.int .i64 x.kind,.int .i64 x.other,slI x.nums]
def linC:List Ln→List V
 | []=>[]
 | x::l=>lnK x++linC l
theorem linC_len:∀ l,(linC l).length = 4 * l.length
 | []=>rfl
 | p::l=>by simp [linC,linC_len l];omega
theorem linC_get:∀ {l:List Ln} {i:Nat} (h:i < l.length),((linC l).drop (i * 4)).take 4 = lnK l[i]
 | p::l,0,h=>by simp [linC]
 | p::l,i+1,h=>by
  have:=linC_get (l:=l) (i:=i) (by simpa using h)
  rw [show (i+1) * 4 = 4+i * 4 by omega,← List.drop_drop]
  simpa [linC] using this
@[go_sem] theorem linC_get' {l:List Ln} {i:Nat} (h:i < l.length):List.take 4 (List.drop (i * 4) (linC l)) = lnK l[i]:=linC_get h
@[go_sem] theorem linC_le {l:List Ln}:(linC l).length = 4 * l.length:=linC_len l
theorem linC_app:∀ (l m:List Ln),linC (l++m) = linC l++linC m
 | [],m=>rfl
 | x::l,m=>by simp [linC,linC_app l m]
abbrev linV (l:List Ln):V:=.sl (linC l) l.length
structure Brd where
 d:List Ln
 c:List Ln
 a:List Ln
 r:List Ln
def LnsB (l:List Ln):Prop:=l.length < 2 ^ 20∧∀ x∈l,x.nums.length < 2 ^ 20∧∀ n∈x.nums,B64 n
def Brd.Ok (b:Brd):Prop:=LnsB b.d∧LnsB b.c∧LnsB b.a∧LnsB b.r
abbrev bdV (b:Brd):V:=.agg [linV b.d,linV b.c,linV b.a,linV b.r]
theorem linC_lnsC:∀ l:List Ln,linC l = lnsC (l.map fun x=>(x,slI x.nums))
 | []=>rfl
 | x::l=>by simp [linC,lnsC,linC_lnsC l]
structure Cf where
 R:Int
 P:Int
 G:Int
 H:Int
 B:Int
 K:Int
abbrev Cf.v (c:Cf):V:=cfgV c.R c.P c.G c.H c.B c.K
def Cf.Ok (c:Cf):Prop:=GroupI c.R c.P c.G∧CfgI c.P c.H c.B c.K
def qDeal (c:Cf) (h:Int) (x:Ln):Bool:=cntB c.H x 1 (c.B+1) false && decide (x.hall = h)
def qCompl (c:Cf) (h k:Int) (x:Ln):Bool:=cntB c.H x 2 0 true && decide (x.hall = h) && decide (x.other = k)
def qAns (c:Cf) (h k:Int) (x:Ln):Bool:=cntB c.H x 3 1 true && decide (x.hall = h) && decide (x.other = k)
def fstI (q:Ln→Bool) (l:List Ln):Int:=match l.findIdx? q with
 | some i=>(i:Int)
 | none=>-1
theorem fstI_ge (q:Ln→Bool) (l:List Ln):-1≤fstI q l:=by unfold fstI;split <;> omega
theorem fstI_snoc (q:Ln→Bool) (l:List Ln) (x:Ln):fstI q (l++[x]) = if fstI q l < 0 then (if q x then (l.length:Int) else -1) else fstI q l:=by
 unfold fstI
 rw [List.findIdx?_append]
 cases h:l.findIdx? q with
 | some i=>simp;omega
 | none=>cases hx:q x <;> simp [hx]
theorem fstI_find (q:Ln→Bool) (l:List Ln):fstI q l < 0↔l.find? q = none:=by
 unfold fstI
 rw [List.find?_eq_none]
 cases h:l.findIdx? q with
 | some i =>
  rw [List.findIdx?_eq_some_iff_getElem] at h
  obtain ⟨h1,h2,_⟩:=h
  constructor
  ·intro h;simp at h;omega
  ·intro h;exact absurd h2 (h _ (List.getElem_mem h1))
 | none =>
  rw [List.findIdx?_eq_none_iff] at h
  simp;intro x hx;simp [h x hx]
def Brd.first (c:Cf) (b:Brd) (h:Int):Int:=fstI (qDeal c h) b.d
def dealL (c:Cf) (l:List Ln) (h:Int):Option (List Int):=match l.find? (qDeal c h) with
 | some x=>if x.nums.all (hasB c.R c.P) then some x.nums else none
 | none=>none
def optV:Option (List Int)→V
 | some A=>slI A
 | none=>.nils
@[go_sem] theorem optV_none:optV none = .nils:=rfl
@[go_sem] theorem optV_some {A:List Int}:optV (some A) = slI A:=rfl
@[go_sem] theorem upd_opt {f:Nat→Option (List Int)} {i:Nat} {A:List Int}:upd (fun j=>optV (f j)) i (slI A) = fun j=>optV (upd f i (some A) j):=by
 funext j;simp only [upd];split <;> rfl
def Brd.deal (c:Cf) (b:Brd) (h:Int):Option (List Int):=dealL c b.d h
def Brd.compl (c:Cf) (b:Brd) (h k:Int):Bool:=(b.deal c k).isSome && b.c.any (qCompl c h k)
def Brd.ans (c:Cf) (b:Brd) (h k:Int):Int:=fstI (qAns c h k) b.a
def hdC (c:Cf) (b:Brd):List V:=[.int .i64 c.R,.int .i64 c.P,.int .i64 c.G,.int .i64 c.H,.int .i64 c.B,.int .i64 c.K,linV b.d,linV b.c,linV b.a,linV b.r]
def stB (c:Cf) (b:Brd):List V:=stC (hdC c b) (fun i=>.int .i64 (b.first c i)) (fun i=>optV (b.deal c i)) (fun i=>.bool (b.compl c ((i / 17:Nat):Int) ((i % 17:Nat):Int))) (fun i=>.int .i64 (b.ans c ((i / 17:Nat):Int) ((i % 17:Nat):Int)))
theorem stC_congr {hd:List V} {F D C A F' D' C' A':Nat→V} (h1:∀ i,i < 17→F i = F' i) (h2:∀ i,i < 17→D i = D' i) (h3:∀ i,i < 289→C i = C' i) (h4:∀ i,i < 289→A i = A' i):stC hd F D C A = stC hd F' D' C' A':=by
 have e:∀ (n:Nat) (f g:Nat→V),(∀ i,i < n→f i = g i)→tabN n f = tabN n g:=fun n f g h=>List.map_congr_left fun i hi=>h i (List.mem_range.1 hi)
 rw [stC,stC,e _ _ _ h1,e _ _ _ h2,e _ _ _ h3,e _ _ _ h4]
theorem fstI_neg {q:Ln→Bool} {l:List Ln} (h:fstI q l < 0):fstI q l = -1:=by have:=fstI_ge q l;omega
theorem fstI_skip {q:Ln→Bool} {l:List Ln} {x:Ln} (h:q x = false):fstI q (l++[x]) = fstI q l:=by
 rw [fstI_snoc,h]
 split
 ·rename_i h;rw [fstI_neg h];rfl
 ·rfl
theorem dealL_snoc (c:Cf) (l:List Ln) (h:Int) (x:Ln):dealL c (l++[x]) h = if fstI (qDeal c h) l < 0 then (if qDeal c h x then (if x.nums.all (hasB c.R c.P) then some x.nums else none) else none) else dealL c l h:=by
 unfold dealL
 rw [List.find?_append]
 cases hf:l.find? (qDeal c h) with
 | none =>
  rw [if_pos ((fstI_find _ _).2 hf)]
  cases hx:qDeal c h x <;> simp [hx]
 | some y =>
  have:¬ fstI (qDeal c h) l < 0:=fun e=>by rw [(fstI_find _ _).1 e] at hf;cases hf
  rw [if_neg this];rfl
theorem dealL_neg {c:Cf} {l:List Ln} {h:Int} (hf:fstI (qDeal c h) l < 0):dealL c l h = none:=by
 unfold dealL;rw [(fstI_find _ _).1 hf]
theorem dealL_skip {c:Cf} {l:List Ln} {h:Int} {x:Ln} (hq:qDeal c h x = false):dealL c (l++[x]) h = dealL c l h:=by
 rw [dealL_snoc,hq];split
 ·rename_i h;rw [dealL_neg h];rfl
 ·rfl
theorem cntB_hall {H kind n:Int} {a:Bool} {x:Ln} (h:cntB H x kind n a = true):1≤x.hall∧x.hall≤H∧x.kind = kind∧(x.nums.length:Int) = n:=by
 simp [cntB,isHallB] at h;omega
theorem cntB_other {H kind n:Int} {x:Ln} (h:cntB H x kind n true = true):1≤x.other∧x.other≤H∧x.other≠x.hall:=by
 simp [cntB,isHallB] at h;omega
theorem dealL_len {c:Cf} {l:List Ln} {h:Int} {A:List Int} (e:dealL c l h = some A):(A.length:Int) = c.B+1:=by
 unfold dealL at e
 cases hf:l.find? (qDeal c h) with
 | none=>rw [hf] at e;cases e
 | some x =>
  rw [hf] at e
  simp only at e
  split at e
  ·cases e
   have:=List.find?_some hf
   simp only [qDeal,Bool.and_eq_true] at this
   exact (cntB_hall this.1).2.2.2
  ·cases e
abbrev stV (c:Cf) (b:Brd):V:=.fp (stB c b) 0
end Go.Dp
