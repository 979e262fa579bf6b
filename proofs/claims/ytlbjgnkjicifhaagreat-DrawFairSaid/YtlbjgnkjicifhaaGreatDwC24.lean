import Derived.Test.YtlbjgnkjicifhaaGreatDwC15
import Derived.Test.YtlbjgnkjicifhaaGreatDwC16
namespace Go.Dp
open Go.RowKit Go.Proofs
attribute [local irreducible] wp wpOps wpOp1 CallW CallT kSeq kBlk kLoop kReg retP retR kAsg kRound kRf kCut kItr kItr2
set_option linter.unusedVariables false
set_option linter.unusedSimpArgs false
set_option maxRecDepth 10000 in
theorem k109 {α:Type} (e:α→V) (A:List α) (len:Nat) (hl:len = A.length) (hlen:A.length < 2 ^ 40) (g:FuncId) (caps:List V) (q:α→Bool) (ha:∀ a,(e a).atom = true) (hc:∀ v∈caps,v.atom = true) (hg:∀ a∈A,PureC Tryz.prog g (e a::caps) (fun r=>r = .bool (q a))) :
  PureC Tryz.prog 109 [.sl (A.map e) len,.clo (.func g) [] caps] (fun r=>r = .int .i64 (idxI q A 0)):=by
 subst hl
 refine pureC_of_wp .x mixed ok109 rfl ?_
 unfold c109
 dsimp only [argE]
 refine W.go ?_
 refine W.lp (fun i:Nat=>[(0,.sl (A.map e) A.length),(1,.clo (.func g) [] caps),(7,.int .i64 (A.length:Int)),(8,.int .i64 (i:Int))]) (fun _ _=>none)
  (fun i=>i≤A.length∧idxI q A 0 = idxI q (A.drop i) i) (fun i=>A.length - i) 0 rfl (HS.refl _) ⟨by omega,rfl⟩ ?_
 rintro i nx ⟨h1,h2⟩ hnx
 by_cases hi:i < A.length
 ·refine W.go ?_
  have ha':=ha A[i]
  refine W.cl (hg A[i] (List.getElem_mem hi)) ?_
  rw [idxI_drop hi] at h2
  cases hq:q A[i]
  ·rw [hq] at h2
   refine W.go ?_
   refine W.kl (i+1) rfl (HS.refl _) (by omega) ⟨by omega,?_⟩ (by omega)
   simpa using h2
  ·rw [hq] at h2
   refine W.go ?_
   rw [h2];rfl
 ·have : i = A.length := by omega
  subst this
  refine W.go ?_
  rw [h2,List.drop_length];rfl
set_option maxRecDepth 10000 in
theorem k52 {α:Type} (e:α→V) (A:List α) (len:Nat) (hl:len = A.length) (hlen:A.length < 2 ^ 40) (g:FuncId) (caps:List V) (q:α→Bool) (ha:∀ a,(e a).atom = true) (hc:∀ v∈caps,v.atom = true) (hg:∀ a∈A,PureC Tryz.prog g (e a::caps) (fun r=>r = .bool (q a))) :
  PureC Tryz.prog 52 [.sl (A.map e) len,.clo (.func g) [] caps] (fun r=>r = .bool (A.any q)):=by
 refine pureC_of_wp .x mixed ok52 rfl ?_
 unfold c52
 dsimp only [argE]
 refine W.go ?_
 refine W.cl (k109 e A len hl hlen g caps q ha hc hg) ?_
 have h:=idxI_any (q:=q) A 0
 cases hq:A.any q
 ·have : ¬ 0 ≤ idxI q A 0 := fun h' => by rw [h.1.1 h'] at hq; cases hq
  refine W.go ?_
  rfl
 ·have:0≤idxI q A 0:=h.1.2 hq
  refine W.go ?_
  rfl
theorem k111 {R P G H B K:Int} (n:Int):PureC Tryz.prog 111 [.int .i64 n,.fp [.int .i64 R,.int .i64 P,.int .i64 G,.int .i64 H,.int .i64 B,.int .i64 K] 0] (fun r=>r = .bool (decide (n < 0∨P≤n))):=by
 refine pureC_of_wp .x mixed ok111 rfl ?_
 unfold c111
 dsimp only [argE]
 by_cases h1:n < 0
 ·refine W.run ?_
  rw [decide_eq_true (.inl h1)]
 ·refine W.run ?_
  simp [h1]
def secsB (P:Int) (A:List Int):Bool:=!A.any fun n=>decide (n < 0∨P≤n)
theorem k54 {R P G H B K:Int} (A:List Int) (hA:A.length < 2 ^ 40):PureC Tryz.prog 54 [cfgV R P G H B K,slI A] (fun r=>r = .bool (secsB P A)):=by
 have c1:PureC Tryz.prog 110 [slI A,.clo (.func 111) [] [.fp [.int .i64 R,.int .i64 P,.int .i64 G,.int .i64 H,.int .i64 B,.int .i64 K] 0]] (fun r=>r = .bool (A.any fun n=>decide (n < 0∨P≤n))) :=
  k110 (V.int .i64) A _ rfl hA 111 _ (fun n=>decide (n < 0∨P≤n)) (fun _=>rfl) (by simp [V.atom]) (fun a _=>k111 a)
 refine pureC_of_wp .x mixed ok54 rfl ?_
 unfold c54 secsB
 dsimp only [argE,cfgV]
 refine W.run ?_
 rfl
def badP (P B:Int) (A:List Int):Bool:=decide (0 < A.length) && (decide ((A.length:Int)≠B+1) || !secsB P A)
set_option maxRecDepth 10000 in
theorem k53 {R P G H B K:Int} (hB:0≤B∧B < 16) (A:List Int) (hA:A.length < 2 ^ 40):PureC Tryz.prog 53 [slI A,.fp [.int .i64 R,.int .i64 P,.int .i64 G,.int .i64 H,.int .i64 B,.int .i64 K] 0] (fun r=>r = .bool (badP P B A)):=by
 have c1:=k54 (R:=R) (P:=P) (G:=G) (H:=H) (B:=B) (K:=K) A hA
 refine pureC_of_wp .x mixed ok53 rfl ?_
 unfold c53 badP
 dsimp only [argE]
 by_cases h1:0 < A.length
 ·by_cases h2:(A.length:Int) = B+1
  ·cases h3:secsB P A
   ·rw [h3] at c1
    refine W.run ?_
    simp [h1,h2]
   ·rw [h3] at c1
    refine W.run ?_
    simp [h1,h2]
  ·refine W.run ?_
   simp [h1,h2]
 ·refine W.run ?_
  simp [h1]
theorem k57 (A:List Int) (hA:A.length < 2 ^ 40):PureC Tryz.prog 57 [slI A] (fun r=>r = .own (A.map (V.int .i64)) A.length 1):=by
 refine pureC_of_wp (.s 1) mixed ok57 rfl ?_
 unfold c57
 dsimp only [argE]
 by_cases h0:0 < A.length
 ·refine W.run ?_
  rfl
 ·have : A = [] := List.length_eq_zero_iff.1 (by omega)
  subst this
  refine W.run ?_
  refine W.eqa2 (by exact Ev.out Ev.by) (by exact Ev.out Ev.by) (fun _=>?_) ?_
  ·refine W.run ?_
   rfl
  ·refine W.run ?_
   rfl
def postM (c:Cf) (b:Brd) (hall:Int) (poly got:List Int):Nat→List Ln
 | 0=>[⟨hall,1,0,comM c.R c.G poly⟩]
 | 1=>(oth c hall).flatMap (post1 c b hall got)
 | 2=>(oth c hall).flatMap (post2 c b hall poly)
 | _=>pre3 c b hall poly++(oth c hall).flatMap (post3 c b hall got)
theorem k59 (c:Cf) (hc:c.Ok) (b:Brd) (hb:b.Ok) (hall:Int) (hh:1≤hall∧hall≤c.H) (poly got:List Int) (hp:polyE c.P poly = 0) (hgl:(got.length:Int) = c.H) (p:Nat) (hp4:p < 4) :
  PureC Tryz.prog 59 [stV c b,.int .i64 hall,slI poly,slI got,.int .i64 (p:Int)] (fun r=>r = .own (linN (postM c b hall poly got p)) (postM c b hall poly got p).length 4):=by
 have hpl:=polyE_len hp
 obtain rfl | rfl | rfl | rfl:p = 0∨p = 1∨p = 2∨p = 3:=by omega
 ·exact k59_0 c hc b hall poly hp (by omega) (slI got) (.inr ⟨_,_,rfl⟩)
 ·exact k59_1 c hc b hb hall hh poly got hgl
 ·exact k59_2 c hc b hall hh poly got hp
 ·exact k59_3 c hc b hb hall hh poly got hgl
structure Ent where
 X:List (Ln × V)
 id:Nat
 ver:Nat
 z:Nat
def Ent.cell (e:Ent):V:=if e.id = 0 then .nils else .ref e.id e.ver 0 e.X.length
def Ent.ob (e:Ent):Ob:={ cells:=lnsC e.X,sz:=4,ver:=e.ver,nl:=if e.X.length = 0 then 1 else 0,fz:=e.z }
def HpL (B:Hp):List Ent→Hp
 | []=>B
 | e::l=>if e.id = 0 then HpL B l else (HpL B l).put e.id e.ob
theorem HpL_nil {B:Hp} {e:Ent} {l:List Ent} (h:e.id = 0):HpL B (e::l) = HpL B l:=by simp only [HpL];rw [if_pos h]
theorem HpL_cons {B:Hp} {e:Ent} {l:List Ent} (h:e.id≠0):HpL B (e::l) = (HpL B l).put e.id e.ob:=by simp only [HpL];rw [if_neg h]
def offL (i:Nat) (l:List Ent):Prop:=∀ e∈l,e.id≠0→i≠e.id
theorem HpL_other {B:Hp} {i:Nat}:∀ {l:List Ent},offL i l→HpL B l i = B i
 | [],_=>rfl
 | e::l,h=>by
  have ih:=HpL_other (B:=B) (l:=l) fun x hx=>h x (by simp [hx])
  by_cases hX:e.id = 0
  ·rw [HpL_nil hX];exact ih
  ·rw [HpL_cons hX,put_ne (h e (by simp) hX),ih]
theorem HpL_put {B:Hp} {i:Nat} {ob:Ob}:∀ {l:List Ent},offL i l→(HpL B l).put i ob = HpL (B.put i ob) l
 | [],_=>rfl
 | e::l,h=>by
  have ih:=HpL_put (B:=B) (ob:=ob) (l:=l) fun x hx=>h x (by simp [hx])
  by_cases hX:e.id = 0
  ·rw [HpL_nil hX,HpL_nil hX];exact ih
  ·rw [HpL_cons hX,HpL_cons hX,put_comm (Ne.symm (h e (by simp) hX)),ih]
def ApL:List Ent→Prop
 | []=>True
 | e::l=>(e.id≠0→offL e.id l)∧ApL l
theorem HpL_get {B:Hp}:∀ {l:List Ent} {p:Nat} (hp:p < l.length),ApL l→l[p].id≠0→HpL B l l[p].id = some l[p].ob
 | e::l,0,_,h,hX=>by
  simp only [List.getElem_cons_zero] at hX ⊢
  rw [HpL_cons hX,put_same]
 | e::l,p+1,hp,h,hX=>by
  have hp':p < l.length:=by simpa using hp
  simp only [List.getElem_cons_succ] at hX ⊢
  have ih:=HpL_get (B:=B) hp' h.2 hX
  by_cases hX':e.id = 0
  ·rw [HpL_nil hX'];exact ih
  ·have:=h.1 hX' l[p] (List.getElem_mem hp') hX
   rw [HpL_cons hX',put_ne (Ne.symm this),ih]
theorem HpL_set {B:Hp} {ob:Ob} {X:List (Ln × V)} {ver z:Nat} (hob:ob = Ent.ob ⟨X,0,ver,z⟩):∀ {l:List Ent} {p:Nat} (hp:p < l.length),ApL l→l[p].id≠0→(HpL B l).put l[p].id ob = HpL B (l.set p ⟨X,l[p].id,ver,z⟩)
 | e::l,0,_,h,hX=>by
  simp only [List.getElem_cons_zero,List.set_cons_zero] at hX ⊢
  rw [HpL_cons hX,HpL_cons (e:=⟨X,e.id,ver,z⟩) hX,put_put,hob];rfl
 | e::l,p+1,hp,h,hX=>by
  have hp':p < l.length:=by simpa using hp
  simp only [List.getElem_cons_succ,List.set_cons_succ] at hX ⊢
  have ih:=HpL_set (B:=B) hob hp' h.2 hX
  by_cases hX2:e.id = 0
  ·rw [HpL_nil hX2,HpL_nil hX2];exact ih
  ·have:=h.1 hX2 l[p] (List.getElem_mem hp') hX
   rw [HpL_cons hX2,HpL_cons hX2,put_comm this,ih]
theorem HpL_new {B:Hp} {ob:Ob} {X:List (Ln × V)} {id ver z:Nat} (hid:id≠0) (hob:ob = Ent.ob ⟨X,id,ver,z⟩):∀ {l:List Ent} {p:Nat} (hp:p < l.length),offL id l→l[p].id = 0→(HpL B l).put id ob = HpL B (l.set p ⟨X,id,ver,z⟩)
 | e::l,0,_,h,hX=>by
  simp only [List.getElem_cons_zero,List.set_cons_zero] at hX ⊢
  rw [HpL_nil hX,HpL_cons (e:=⟨X,id,ver,z⟩) hid,hob]
 | e::l,p+1,hp,h,hX=>by
  have hp':p < l.length:=by simpa using hp
  simp only [List.getElem_cons_succ,List.set_cons_succ] at hX ⊢
  have ih:=HpL_new (B:=B) hid hob hp' (fun x hx=>h x (by simp [hx])) hX
  by_cases hX2:e.id = 0
  ·rw [HpL_nil hX2,HpL_nil hX2];exact ih
  ·rw [HpL_cons hX2,HpL_cons hX2,put_comm (Ne.symm (h e (by simp) hX2)),ih]
def WkL (X:List (Ln × V)):Prop:=∀ p∈X,VW p.2 (slI p.1.nums)∧p.2.atom = true
theorem WkL.app {X Y:List (Ln × V)} (h:WkL X) (k:WkL Y):WkL (X++Y):=fun p hp=>(List.mem_append.1 hp).elim (h p) (k p)
theorem WkL.vwl:∀ {X:List (Ln × V)},WkL X→VWL (lnsC X) (linC (X.map Prod.fst))
 | [],_=>.nil
 | (x,v)::l,h=>by
  have h0:=(h (x,v) (by simp)).1
  have ih:=WkL.vwl (X:=l) fun p hp=>h p (by simp [hp])
  exact .cons (.refl _) (.cons (.refl _) (.cons (.refl _) (.cons h0 ih)))
theorem WkL.vw {X:List (Ln × V)} (h:WkL X):VW (.sl (lnsC X) X.length) (linV (X.map Prod.fst)):=by
 show VW (.sl (lnsC X) X.length) (.sl (linC (X.map Prod.fst)) (X.map Prod.fst).length)
 rw [List.length_map]
 exact VW.sl h.vwl
theorem wkL_post {l:List Ln} (h:∀ x∈l,x.kind = 2→x.nums = []):WkL (l.map fun x=>(x,nvL x)):=fun p hp=>by
 obtain ⟨x,hx,rfl⟩:=List.mem_map.1 hp
 refine ⟨?_,nvL_atom x⟩
 dsimp only [nvL]
 split
 ·rename_i hk;rw [h x hx hk];exact .nils
 ·exact .refl _
theorem wkL_lines (l:List Ln):WkL (l.map fun x=>(x,slI x.nums)):=fun p hp=>by
 obtain ⟨x,hx,rfl⟩:=List.mem_map.1 hp
 exact ⟨.refl _,rfl⟩
def rowG (c:Cf) (polys:List (List Int)) (lost:List (Int × Int)) (h:Nat):List Int:=(List.range c.H.toNat).map (shF c polys lost h)
def pollH (c:Cf) (polys:List (List Int)) (lost:List (Int × Int)) (b:Brd) (p h:Nat):List Ln :=
 if (polyAt polys h).length = 0 then [] else postM c b ((h:Int)+1) (polyAt polys h) (rowG c polys lost h) p
def pollM (c:Cf) (polys:List (List Int)) (lost:List (Int × Int)) (b:Brd) (p:Nat):List Ln:=(List.range polys.length).flatMap (pollH c polys lost b p)
def brdOf (l:List (List Ln)):Brd:=⟨l.getD 0 [],l.getD 1 [],l.getD 2 [],l.getD 3 []⟩
def Brd.at (b:Brd):Nat→List Ln
 | 0=>b.d
 | 1=>b.c
 | 2=>b.a
 | _=>b.r
def runL (c:Cf) (polys:List (List Int)) (lost:List (Int × Int)) (b:Brd):Nat→List (List Ln)
 | 0=>[]
 | p+1=>runL c polys lost b p++[b.at p++pollM c polys lost (brdOf (runL c polys lost b p++[b.at p])) p]
def runB (c:Cf) (polys:List (List Int)) (lost:List (Int × Int)) (b:Brd):Brd:=brdOf (runL c polys lost b 4)
end Go.Dp
namespace Go.Dp
open Go.RowKit Go.Proofs
set_option linter.unusedVariables false
set_option linter.unusedSimpArgs false
theorem b64_of {x:Int} (h:0≤x∧x < 2 ^ 40):B64 x:=by unfold B64;omega
theorem ansN_rng {c:Cf} {b:Brd} {h k:Int} (e:ansB c b h k = true):0≤ansN c b h k∧ansN c b h k < c.P:=by
 unfold ansB at e
 unfold ansN
 split at e
 ·rename_i x hx;exact fitsM_rng e
 ·cases e
theorem postM_ok {c:Cf} (hc:c.Ok) (b:Brd) (hall:Int) {poly got:List Int} (hp:polyE c.P poly = 0) (p:Nat):(postM c b hall poly got p).length≤17∧∀ x∈postM c b hall poly got p,LnO x∧(x.kind = 2→x.nums = []):=by
 have hP:=hc.1.hP
 have hR:=hc.1.hR
 have hl:=polyE_len hp
 have hrg:=polyE_rng hp
 have hol:=oth_len hc hall
 have hfl:∀ (f:Int→List Ln),(∀ k,(f k).length≤1)→((oth c hall).flatMap f).length≤16:=by
  intro f hf
  have:∀ l:List Int,(l.flatMap f).length≤l.length:=by
   intro l
   induction l with
   | nil=>simp
   | cons a l ih=>rw [List.flatMap_cons,List.length_append,List.length_cons];have:=hf a;omega
  have:=this (oth c hall);omega
 have h1:∀ n:Int,0≤n∧n < c.P→LnO ⟨hall,5,0,[n]⟩:=fun n hn=>⟨by simp,fun m hm=>by rw [List.mem_singleton.1 hm];exact b64_of (by omega)⟩
 match p with
 | 0 =>
  refine ⟨by simp [postM],fun x hx=>?_⟩
  rw [postM,List.mem_singleton] at hx
  subst hx
  refine ⟨⟨by simp [comM];omega,fun n hn=>?_⟩,fun h=>by simp at h⟩
  simp only [comM,List.mem_map] at hn
  obtain ⟨a,_,rfl⟩:=hn
  have:=emod_rng (a:=c.G ^ a.toNat) (P:=c.R) (by omega)
  exact b64_of (by omega)
 | 1 =>
  refine ⟨?_,fun x hx=>?_⟩
  ·have := hfl (post1 c b hall got) (fun k => by unfold post1; split <;> simp)
   simp only [postM];omega
  ·simp only [postM,List.mem_flatMap] at hx
   obtain ⟨k,_,hx⟩:=hx
   unfold post1 at hx
   split at hx
   ·rw [List.mem_singleton] at hx;subst hx;exact ⟨⟨by simp,by simp⟩,fun _=>rfl⟩
   ·simp at hx
 | 2 =>
  refine ⟨?_,fun x hx=>?_⟩
  ·have := hfl (post2 c b hall poly) (fun k => by unfold post2; split <;> simp)
   simp only [postM];omega
  ·simp only [postM,List.mem_flatMap] at hx
   obtain ⟨k,_,hx⟩:=hx
   unfold post2 at hx
   split at hx
   ·rw [List.mem_singleton] at hx;subst hx
    have:=h1 _ (valM_rng (P:=c.P) (x:=k) (by omega) poly)
    exact ⟨⟨this.1,this.2⟩,fun h=>by simp at h⟩
   ·simp at hx
 | p+3 =>
  refine ⟨?_,fun x hx=>?_⟩
  ·have := hfl (post3 c b hall got) (fun k => by unfold post3; split; split; simp; split <;> simp; simp)
   have h0:(pre3 c b hall poly).length≤1:=by unfold pre3;split <;> simp
   simp only [postM,List.length_append];omega
  ·simp only [postM,List.mem_append,List.mem_flatMap] at hx
   rcases hx with hx | ⟨k,_,hx⟩
   ·unfold pre3 at hx
    split at hx
    ·rw [List.mem_singleton] at hx;subst hx
     exact ⟨⟨by dsimp only;omega,fun n hn=>b64_of (by have:=hrg n hn;omega)⟩,fun h=>by simp at h⟩
    ·simp at hx
   ·unfold post3 at hx
    split at hx
    ·split at hx
     ·rename_i hf
      rw [List.mem_singleton] at hx;subst hx
      have:=h1 _ (fitsM_rng hf)
      exact ⟨⟨this.1,this.2⟩,fun h=>by simp at h⟩
     ·split at hx
      ·rename_i hf
       rw [List.mem_singleton] at hx;subst hx
       have:=h1 _ (ansN_rng hf)
       exact ⟨⟨this.1,this.2⟩,fun h=>by simp at h⟩
      ·simp at hx
    ·simp at hx
theorem pollH_ok {c:Cf} (hc:c.Ok) {polys:List (List Int)} (hp:∀ q∈polys,q.length≠0→polyE c.P q = 0) (lost:List (Int × Int)) (b:Brd) (p h:Nat):(pollH c polys lost b p h).length≤17∧∀ x∈pollH c polys lost b p h,LnO x∧(x.kind = 2→x.nums = []):=by
 unfold pollH
 split
 ·simp
 ·rename_i hz
  refine postM_ok hc b _ ?_ p
  have:h < polys.length:=by
   rcases Nat.lt_or_ge h polys.length with h1 | h1
   ·exact h1
   ·exfalso;apply hz;unfold polyAt;rw [List.getD_eq_getElem?_getD,List.getElem?_eq_none h1];rfl
  have e:polyAt polys h = polys[h]:=by unfold polyAt;rw [List.getD_eq_getElem?_getD,List.getElem?_eq_getElem this];rfl
  rw [e] at hz ⊢
  exact hp _ (List.getElem_mem this) hz
def cellsE (xs:List Ent):List V:=xs.map Ent.cell
@[go_sem] theorem cellsE_len (xs:List Ent):(cellsE xs).length = xs.length:=by simp [cellsE]
theorem cellsE_set {xs:List Ent} {p:Nat} {v:V} {e:Ent} (h:p < xs.length) (he:e.cell = v):List.take p (cellsE xs)++[v]++List.drop (p+1) (cellsE xs) = cellsE (xs.set p e):=by
 rw [put_set (by rw [cellsE_len];exact h),cellsE,← he,cellsE,List.map_set]
def ptrsL:List V:=(List.range 4).map (V.ptr 184 0)
@[go_sem] theorem ptrsL_len:ptrsL.length = 4:=rfl
@[go_sem] theorem ptrsL_at {p:Nat} (h:p < 4):ptrsL[p]? = some (.ptr 184 0 p):=by simp [ptrsL,h]
attribute [go_sem] HpL_other
def Ent.fv (e:Ent):V:=if e.id = 0 then .nils else .sl (lnsC e.X) e.X.length
def Ent.frz (e:Ent):Ent:={ e with z:=max e.z (0+e.X.length * 4) }
theorem Ent.fv_vw {e:Ent} (h:WkL e.X) (h0:e.id = 0→e.X = []):VW e.fv (linV (e.X.map Prod.fst)):=by
 have:=WkL.vw h
 unfold Ent.fv
 by_cases hX:e.id = 0
 ·rw [if_pos hX,h0 hX,List.map_nil];exact .nils
 ·rw [if_neg hX];exact this
theorem frz_cells {k:Nat}:∀ (xs:List Ent) (B:Hp),ApL xs→(∀ e∈xs,∀ p∈e.X,p.2.atom = true)→mapS (Go.Dp.frz (k+1)) (cellsE xs) (HpL B xs) = some (xs.map Ent.fv,HpL B (xs.map Ent.frz))
 | [],B,_,_=>rfl
 | e::xs,B,h,ha=>by
  have ih:=frz_cells (k:=k) xs B h.2 (fun x hx=>ha x (by simp [hx]))
  by_cases hX:e.id = 0
  ·have e1 : e.cell = .nils := by unfold Ent.cell; rw [if_pos hX]
   have e2:e.fv = .nils:=by unfold Ent.fv;rw [if_pos hX]
   have e4:HpL B (e.frz::xs.map Ent.frz) = HpL B (xs.map Ent.frz):=HpL_nil (e:=e.frz) hX
   simp only [cellsE,List.map_cons,mapS,e1,e2,HpL_nil hX,e4,frz_nils,Option.bind_some]
   have:=ih
   unfold cellsE at this
   rw [this];rfl
  ·have hoff:=h.1 hX
   have hoff2:offL e.id (xs.map Ent.frz):=fun y hy hy2=>by
    obtain ⟨z,hz,rfl⟩:=List.mem_map.1 hy
    exact hoff z hz hy2
   have e1:e.cell = .ref e.id e.ver 0 e.X.length:=by unfold Ent.cell;rw [if_neg hX]
   have e2:e.fv = .sl (lnsC e.X) e.X.length:=by unfold Ent.fv;rw [if_neg hX]
   have e3:HpL B (e::xs) = (HpL B xs).put e.id e.ob:=HpL_cons hX
   have e4:HpL B (e.frz::xs.map Ent.frz) = (HpL B (xs.map Ent.frz)).put e.id e.frz.ob:=HpL_cons (e:=e.frz) hX
   have hl:(lnsC e.X).length = e.X.length * 4:=by rw [lnsC_len];omega
   have hq:=frzRef_some (n:=k) (o:=e.id) (ver:=e.ver) (off:=0) (len:=e.X.length) (H:=(HpL B xs).put e.id e.ob) (ob:=e.ob) ⟨rfl,by simp only [Ent.ob,hl];omega,rfl⟩
   have hf:Go.Dp.frz (k+1) (.ref e.id e.ver 0 e.X.length) ((HpL B xs).put e.id e.ob) = some (.sl (lnsC e.X) e.X.length,(HpL B xs).put e.id e.frz.ob):=by
    rw [frz_ref,put_same,hq]
    simp only [Ent.ob,List.drop_zero]
    rw [List.take_of_length_le (by rw [hl];exact Nat.le_refl _),mapS_atoms (lnsC_atoms _ (ha e (by simp))),Option.map_some,mark_put]
    rfl
   show mapS (Go.Dp.frz (k+1)) (e.cell::cellsE xs) (HpL B (e::xs)) = some (e.fv::xs.map Ent.fv,HpL B (e.frz::xs.map Ent.frz))
   rw [e1,e2,e3,e4,mapS,hf,Option.bind_some,HpL_put hoff]
   have ih2:=frz_cells (k:=k) xs (B.put e.id e.frz.ob) h.2 (fun x hx=>ha x (by simp [hx]))
   rw [ih2,Option.map_some,HpL_put hoff2]
def runX (c:Cf) (polys:List (List Int)) (lost:List (Int × Int)) (b:Brd) (k:Nat):List (Ln × V) :=
 (b.at k).map (fun x=>(x,slI x.nums))++(pollM c polys lost (brdOf (runL c polys lost b k++[b.at k])) k).map (fun x=>(x,nvL x))
theorem runL_succ (c:Cf) (polys:List (List Int)) (lost:List (Int × Int)) (b:Brd) (k:Nat):runL c polys lost b (k+1) = runL c polys lost b k++[(runX c polys lost b k).map Prod.fst]:=by
 have e1:∀ (f:Ln→V) (l:List Ln),(l.map fun x=>(x,f x)).map Prod.fst = l:=fun f l=>by
  induction l with
  | nil=>rfl
  | cons a l ih=>simp only [List.map_cons,ih]
 rw [runX,List.map_append,e1,e1];rfl
theorem runL_len (c:Cf) (polys:List (List Int)) (lost:List (Int × Int)) (b:Brd):∀ k,(runL c polys lost b k).length = k
 | 0=>rfl
 | k+1=>by rw [runL_succ,List.length_append,runL_len c polys lost b k];rfl
theorem runL_get (c:Cf) (polys:List (List Int)) (lost:List (Int × Int)) (b:Brd):∀ (p k:Nat),k < p→(runL c polys lost b p)[k]? = some ((runX c polys lost b k).map Prod.fst)
 | p+1,k,h=>by
  rw [runL_succ]
  by_cases e:k = p
  ·subst e
   rw [List.getElem?_append_right (by rw [runL_len];exact Nat.le_refl _),runL_len,Nat.sub_self];rfl
  ·rw [List.getElem?_append_left (by rw [runL_len]; omega)]
   exact runL_get c polys lost b p k (by omega)
structure InvE (c:Cf) (polys:List (List Int)) (lost:List (Int × Int)) (b:Brd) (p:Nat) (cur:List (Ln × V)) (xs:List Ent) (n:Nat) (lo:Nat:=232):Prop where
 len:xs.length = 4
 ap:ApL xs
 ids:∀ e∈xs,e.id≠0→lo < e.id∧e.id < n∧e.z≤e.X.length * 4
 nil:∀ e∈xs,e.id = 0→e.X = []
 n0:lo+8≤n
 X:∀ k (h:k < xs.length),xs[k].X = if k < p then runX c polys lost b k else if k = p then cur else []
theorem InvE.mono {c:Cf} {polys:List (List Int)} {lost:List (Int × Int)} {b:Brd} {p:Nat} {cur:List (Ln × V)} {xs:List Ent} {lo:Nat} {n n':Nat} (h:InvE c polys lost b p cur xs n lo) (hn:n≤n'):InvE c polys lost b p cur xs n' lo :=
 ⟨h.len,h.ap,fun e he h2=>by have:=h.ids e he h2;omega,h.nil,by have:=h.n0;omega,h.X⟩
theorem InvE.off {c:Cf} {polys:List (List Int)} {lost:List (Int × Int)} {b:Brd} {p:Nat} {cur:List (Ln × V)} {xs:List Ent} {lo:Nat} {n:Nat} (h:InvE c polys lost b p cur xs n lo) {i:Nat} (hi:i≤lo∨n≤i):offL i xs:=fun e he h2=>by have:=h.ids e he h2;omega
theorem ApL_set {e':Ent}:∀ {xs:List Ent} {p:Nat} (hp:p < xs.length),ApL xs→(∀ k (h:k < xs.length),k≠p→xs[k].id≠0→e'.id≠xs[k].id)→ApL (xs.set p e')
 | e::xs,0,_,h,hd=>⟨fun _ y hy hy2=>by
   obtain ⟨k,hk,rfl⟩:=List.getElem_of_mem hy
   have:=hd (k+1) (by simpa using hk) (by omega)
   simp only [List.getElem_cons_succ] at this
   exact this hy2,h.2⟩
 | e::xs,p+1,hp,h,hd=>by
  have hp':p < xs.length:=by simpa using hp
  refine ⟨fun h2 y hy hy2=>?_,ApL_set hp' h.2 fun k hk hne=>?_⟩
  ·rcases List.mem_or_eq_of_mem_set hy with hy | rfl
   ·exact h.1 h2 y hy hy2
   ·have := hd 0 (by simp) (by omega)
    simp only [List.getElem_cons_zero] at this
    exact Ne.symm (this h2)
  ·have := hd (k + 1) (by simpa using hk) (by omega)
   simpa only [List.getElem_cons_succ] using this
theorem ApL_ne:∀ {xs:List Ent} {j k:Nat} (hj:j < xs.length) (hk:k < xs.length),ApL xs→j≠k→xs[j].id≠0→xs[k].id≠0→xs[j].id≠xs[k].id
 | e::xs,0,0,_,_,_,h,_,_=>absurd rfl h
 | e::xs,0,k+1,_,hk,h,_,h1,h2=>by
  simp only [List.getElem_cons_zero,List.getElem_cons_succ] at h1 h2 ⊢
  exact h.1 h1 _ (List.getElem_mem (by simpa using hk)) h2
 | e::xs,j+1,0,hj,_,h,_,h1,h2=>by
  simp only [List.getElem_cons_zero,List.getElem_cons_succ] at h1 h2 ⊢
  exact Ne.symm (h.1 h2 _ (List.getElem_mem (by simpa using hj)) h1)
 | e::xs,j+1,k+1,hj,hk,h,hne,h1,h2=>by
  simp only [List.getElem_cons_succ] at h1 h2 ⊢
  exact ApL_ne (by simpa using hj) (by simpa using hk) h.2 (by omega) h1 h2
theorem InvE.more {c:Cf} {polys:List (List Int)} {lost:List (Int × Int)} {b:Brd} {p:Nat} {cur Y:List (Ln × V)} {xs:List Ent} {lo:Nat} {n n':Nat} (h:InvE c polys lost b p cur xs n lo) (hp:p < xs.length) (e':Ent) (hX:e'.X = cur++Y)
  (hid:(xs[p].id≠0∧e'.id = xs[p].id)∨(n≤e'.id∧e'.id < n')) (hz:e'.z≤e'.X.length * 4) (hn:n≤n'):InvE c polys lost b p (cur++Y) (xs.set p e') n' lo:=by
 have hXp:xs[p].X = cur:=by rw [h.X p hp,if_neg (by omega),if_pos rfl]
 have h0:=h.n0
 refine ⟨by rw [List.length_set];exact h.len,ApL_set hp h.ap fun k hk hne hk2=>?_,fun e he he2=>?_,fun e he he2=>?_,by omega,fun k hk=>?_⟩
 ·rcases hid with ⟨h1,h2⟩ | ⟨h1,h2⟩
  ·rw [h2];exact ApL_ne hp hk h.ap (Ne.symm hne) h1 hk2
  ·have:=h.ids xs[k] (List.getElem_mem hk) hk2;omega
 ·rcases List.mem_or_eq_of_mem_set he with he | rfl
  ·have:=h.ids e he he2;omega
  ·rcases hid with ⟨h1,h2⟩ | ⟨h1,h2⟩
   ·have:=h.ids xs[p] (List.getElem_mem hp) h1;omega
   ·omega
 ·rcases List.mem_or_eq_of_mem_set he with he | rfl
  ·exact h.nil e he he2
  ·rcases hid with ⟨h1,h2⟩ | ⟨h1,h2⟩
   ·exact absurd (h2 ▸ he2) h1
   ·omega
 ·rw [List.length_set] at hk
  rw [List.getElem_set]
  split
  ·rename_i e;subst e;rw [if_neg (by omega),if_pos rfl,hX]
  ·rename_i e
   rw [h.X k hk]
   by_cases h1:k < p
   ·rw [if_pos h1,if_pos h1]
   ·rw [if_neg h1,if_neg h1,if_neg (Ne.symm e),if_neg (Ne.symm e)]
theorem InvE.next {c:Cf} {polys:List (List Int)} {lost:List (Int × Int)} {b:Brd} {p:Nat} {xs:List Ent} {lo:Nat} {n:Nat} (h:InvE c polys lost b p (runX c polys lost b p) xs n lo):InvE c polys lost b (p+1) [] xs n lo :=
 ⟨h.len,h.ap,h.ids,h.nil,h.n0,fun k hk=>by
  rw [h.X k hk]
  by_cases h1:k < p
  ·rw [if_pos h1,if_pos (by omega)]
  ·by_cases h2:k = p
   ·subst h2;rw [if_neg h1,if_pos rfl,if_pos (by omega)]
   ·rw [if_neg h1,if_neg h2,if_neg (by omega)];split <;> rfl⟩
def HpN (c:Cf) (b:Brd) (xs:List Ent):Hp:=HpL (((((Hp.put (fun _=>none) 0 { cells:=[.int .i64 c.R,.int .i64 c.P,.int .i64 c.G,.int .i64 c.H,.int .i64 c.B,.int .i64 c.K],sz:=6 }).put 8 { cells:=[linV b.d,linV b.c,linV b.a,linV b.r],sz:=4 }).put 16 { cells:=[.nils,.nils,.nils,.nils],sz:=4 }).put 184 { cells:=cellsE xs,sz:=4 }).put 232 { cells:=ptrsL,sz:=4 }) xs
theorem runX_wk {c:Cf} (hc:c.Ok) {polys:List (List Int)} (hp:∀ q∈polys,q.length≠0→polyE c.P q = 0) (lost:List (Int × Int)) (b:Brd) (k:Nat):WkL (runX c polys lost b k):=by
 refine (wkL_lines _).app (wkL_post fun x hx=>?_)
 simp only [pollM,List.mem_flatMap] at hx
 obtain ⟨h,_,hx⟩:=hx
 exact ((pollH_ok hc hp lost _ k h).2 x hx).2
theorem map_fst_pair (f:Ln→V):∀ l:List Ln,(l.map fun x=>(x,f x)).map Prod.fst = l
 | []=>rfl
 | a::l=>by simp only [List.map_cons,map_fst_pair f l]
theorem at_ok {b:Brd} (hb:b.Ok):∀ k,LnsB (b.at k)
 | 0=>hb.1
 | 1=>hb.2.1
 | 2=>hb.2.2.1
 | _+3=>hb.2.2.2
theorem at_100 {b:Brd} (hf:b.fits 100 = true) (k:Nat):(b.at k).length≤100:=by
 simp only [Brd.fits,okL,Bool.and_eq_true,decide_eq_true_eq] at hf
 match k with
 | 0=>simp only [Brd.at];omega
 | 1=>simp only [Brd.at];omega
 | 2=>simp only [Brd.at];omega
 | _+3=>simp only [Brd.at];omega
theorem flatMap_le {α β:Type} {f:α→List β} {m:Nat} (h:∀ a,(f a).length≤m):∀ l:List α,(l.flatMap f).length≤l.length * m
 | []=>by simp
 | a::l=>by
  have:=flatMap_le h l
  have:=h a
  rw [List.flatMap_cons,List.length_append,List.length_cons,Nat.succ_mul];omega
def phB (c:Cf) (polys:List (List Int)) (lost:List (Int × Int)) (b:Brd) (p:Nat):Brd:=brdOf (runL c polys lost b p++[b.at p])
def curX (c:Cf) (polys:List (List Int)) (lost:List (Int × Int)) (b:Brd) (p h:Nat):List (Ln × V) :=
 (b.at p).map (fun x=>(x,slI x.nums))++((List.range h).flatMap (pollH c polys lost (phB c polys lost b p) p)).map (fun x=>(x,nvL x))
theorem curX_0 (c:Cf) (polys:List (List Int)) (lost:List (Int × Int)) (b:Brd) (p:Nat):curX c polys lost b p 0 = (b.at p).map (fun x=>(x,slI x.nums)):=by simp [curX]
theorem curX_succ (c:Cf) (polys:List (List Int)) (lost:List (Int × Int)) (b:Brd) (p h:Nat):curX c polys lost b p (h+1) = curX c polys lost b p h++(pollH c polys lost (phB c polys lost b p) p h).map (fun x=>(x,nvL x)):=by
 simp [curX,List.range_succ]
theorem curX_end (c:Cf) (polys:List (List Int)) (lost:List (Int × Int)) (b:Brd) (p:Nat):curX c polys lost b p polys.length = runX c polys lost b p:=rfl
theorem curX_len {c:Cf} (hc:c.Ok) {polys:List (List Int)} (hp:∀ q∈polys,q.length≠0→polyE c.P q = 0) (lost:List (Int × Int)) {b:Brd} (hf:b.fits 100 = true) (p h:Nat):(curX c polys lost b p h).length≤100+h * 17:=by
 have:=flatMap_le (f:=pollH c polys lost (phB c polys lost b p) p) (m:=17) (fun k=>(pollH_ok hc hp lost _ p k).1) (List.range h)
 have:=at_100 hf p
 rw [List.length_range] at *
 simp only [curX,List.length_append,List.length_map];omega
theorem curX_wk {c:Cf} (hc:c.Ok) {polys:List (List Int)} (hp:∀ q∈polys,q.length≠0→polyE c.P q = 0) (lost:List (Int × Int)) (b:Brd) (p h:Nat):WkL (curX c polys lost b p h):=by
 refine (wkL_lines _).app (wkL_post fun x hx=>?_)
 simp only [List.mem_flatMap] at hx
 obtain ⟨h,_,hx⟩:=hx
 exact ((pollH_ok hc hp lost _ p h).2 x hx).2
theorem runX_ok {c:Cf} (hc:c.Ok) {polys:List (List Int)} (hp:∀ q∈polys,q.length≠0→polyE c.P q = 0) (hn:polys.length≤16) (lost:List (Int × Int)) {b:Brd} (hb:b.Ok) (hf:b.fits 100 = true) (k:Nat):LnsB ((runX c polys lost b k).map Prod.fst):=by
 refine ⟨?_,fun x hx=>?_⟩
 ·rw [List.length_map,← curX_end]
  have:=curX_len hc hp lost hf k polys.length
  omega
 ·rw [runX,List.map_append,map_fst_pair,map_fst_pair,List.mem_append] at hx
  rcases hx with hx | hx
  ·exact (at_ok hb k).2 x hx
  ·simp only [pollM,List.mem_flatMap] at hx
   obtain ⟨h,_,hx⟩:=hx
   exact ((pollH_ok hc hp lost _ k h).2 x hx).1
theorem brdOf_at {l:List (List Ln)} (hl:l.length≤4):∀ k,k < 4→(brdOf l).at k = l.getD k []
 | 0,_=>rfl
 | 1,_=>rfl
 | 2,_=>rfl
 | 3,_=>rfl
 | k+4,h=>by omega
theorem phB_at (c:Cf) (polys:List (List Int)) (lost:List (Int × Int)) (b:Brd) {p k:Nat} (hp:p < 4) (hk:k < 4):(phB c polys lost b p).at k = if k < p then (runX c polys lost b k).map Prod.fst else if k = p then b.at p else []:=by
 rw [phB,brdOf_at (by rw [List.length_append,runL_len];simp;omega) k hk,List.getD_eq_getElem?_getD]
 by_cases h:k < p
 ·rw [List.getElem?_append_left (by rw [runL_len];exact h),runL_get c polys lost b p k h,if_pos h];rfl
 ·rw [List.getElem?_append_right (by rw [runL_len]; omega), runL_len, if_neg h]
  by_cases h2:k = p
  ·subst h2;rw [Nat.sub_self,if_pos rfl];rfl
  ·rw [if_neg h2,List.getElem?_eq_none (by simp;omega)];rfl
theorem Brd.ok_at {b:Brd} (h:∀ k,k < 4→LnsB (b.at k)):b.Ok:=⟨h 0 (by omega),h 1 (by omega),h 2 (by omega),h 3 (by omega)⟩
theorem phB_ok {c:Cf} (hc:c.Ok) {polys:List (List Int)} (hp:∀ q∈polys,q.length≠0→polyE c.P q = 0) (hn:polys.length≤16) (lost:List (Int × Int)) {b:Brd} (hb:b.Ok) (hf:b.fits 100 = true) {p:Nat} (hp4:p < 4):(phB c polys lost b p).Ok:=by
 refine Brd.ok_at fun k hk=>?_
 rw [phB_at c polys lost b hp4 hk]
 split
 ·exact runX_ok hc hp hn lost hb hf k
 ·split
  ·exact at_ok hb p
  ·exact ⟨by simp,by simp⟩
theorem lists_at {b:Brd}:∀ {p:Nat} (h:p < [linV b.d,linV b.c,linV b.a,linV b.r].length),[linV b.d,linV b.c,linV b.a,linV b.r][p] = linV (b.at p)
 | 0,_=>rfl
 | 1,_=>rfl
 | 2,_=>rfl
 | 3,_=>rfl
 | p+4,h=>by simp only [List.length_cons,List.length_nil] at h;omega
theorem phB_vw {c:Cf} (hc:c.Ok) {polys:List (List Int)} (hp:∀ q∈polys,q.length≠0→polyE c.P q = 0) {lost:List (Int × Int)} {b:Brd} {p n:Nat} {xs:List Ent} (hp4:p < 4) (h:InvE c polys lost b p (curX c polys lost b p 0) xs n):VW (.agg (xs.map Ent.fv)) (bdV (phB c polys lost b p)):=by
 have hl:=h.len
 have hk:∀ k (hk:k < xs.length),WkL xs[k].X∧xs[k].X.map Prod.fst = (phB c polys lost b p).at k:=by
  intro k hk
  rw [phB_at c polys lost b hp4 (by omega),h.X k hk]
  split
  ·exact ⟨runX_wk hc hp lost b k,rfl⟩
  ·split
   ·exact ⟨curX_wk hc hp lost b p 0,by rw [curX_0,map_fst_pair]⟩
   ·exact ⟨fun p hp=>by simp at hp,rfl⟩
 refine VW.agg (VWL.of (by simp [hl]) fun i h1 h2=>?_)
 rw [List.length_map] at h1
 obtain ⟨w,e⟩:=hk i h1
 have:=Ent.fv_vw w (fun h0=>h.nil _ (List.getElem_mem h1) h0)
 rw [e] at this
 rw [List.getElem_map]
 rw [lists_at]
 exact this
theorem InvE.frz {c:Cf} {polys:List (List Int)} {lost:List (Int × Int)} {b:Brd} {p:Nat} {cur:List (Ln × V)} {xs:List Ent} {n lo:Nat} (h:InvE c polys lost b p cur xs n lo):InvE c polys lost b p cur (xs.map Ent.frz) n lo:=by
 have ha:∀ {l:List Ent},ApL l→ApL (l.map Ent.frz):=by
  intro l
  induction l with
  | nil=>intro _;trivial
  | cons e l ih =>
   intro h
   refine ⟨fun h2 y hy hy2=>?_,ih h.2⟩
   obtain ⟨z,hz,rfl⟩:=List.mem_map.1 hy
   exact h.1 h2 z hz hy2
 refine ⟨by rw [List.length_map];exact h.len,ha h.ap,fun e he h2=>?_,fun e he h2=>?_,h.n0,fun k hk=>?_⟩
 ·obtain ⟨z,hz,rfl⟩:=List.mem_map.1 he
  have:=h.ids z hz h2
  refine ⟨this.1,this.2.1,?_⟩
  simp only [Ent.frz];omega
 ·obtain ⟨z,hz,rfl⟩:=List.mem_map.1 he
  exact h.nil z hz h2
 ·rw [List.length_map] at hk
  rw [List.getElem_map,← h.X k hk];rfl
theorem cellsE_frz (xs:List Ent):cellsE (xs.map Ent.frz) = cellsE xs:=by
 simp only [cellsE,List.map_map]
 rfl
theorem Ent.fv_vo {e:Ent} (h:WkL e.X) (h0:e.id = 0→e.X = []):VO e.fv (linV (e.X.map Prod.fst)):=by
 unfold Ent.fv
 by_cases hX:e.id = 0
 ·rw [if_pos hX,h0 hX,List.map_nil];exact .nils
 ·rw [if_neg hX]
  show VO (.sl (lnsC e.X) e.X.length) (.sl (linC (e.X.map Prod.fst)) (e.X.map Prod.fst).length)
  rw [List.length_map]
  exact VO.sl h.vwl
theorem runB_vo {c:Cf} (hc:c.Ok) {polys:List (List Int)} (hp:∀ q∈polys,q.length≠0→polyE c.P q = 0) {lost:List (Int × Int)} {b:Brd} {n lo:Nat} {xs:List Ent} (h:InvE c polys lost b 4 [] xs n lo):VO (.tup [.agg (xs.map Ent.fv),.int .i64 0]) (.tup [bdV (runB c polys lost b),.int .i64 0]):=by
 have hl:=h.len
 have hX:=h.X
 have hn:=h.nil
 have hb:∀ k,k < 4→(runB c polys lost b).at k = (runX c polys lost b k).map Prod.fst:=fun k hk=>by
  rw [runB,brdOf_at (by rw [runL_len];omega) k hk,List.getD_eq_getElem?_getD,runL_get c polys lost b 4 k hk];rfl
 match xs,hl with
 | [e0,e1,e2,e3],_ =>
  have x0:=hX 0 (by simp)
  have x1:=hX 1 (by simp)
  have x2:=hX 2 (by simp)
  have x3:=hX 3 (by simp)
  simp only [List.getElem_cons_zero,List.getElem_cons_succ,Nat.reduceLT,if_true,Nat.zero_lt_succ] at x0 x1 x2 x3
  have b0:(runB c polys lost b).d = e0.X.map Prod.fst:=by rw [x0];exact hb 0 (by omega)
  have b1:(runB c polys lost b).c = e1.X.map Prod.fst:=by rw [x1];exact hb 1 (by omega)
  have b2:(runB c polys lost b).a = e2.X.map Prod.fst:=by rw [x2];exact hb 2 (by omega)
  have b3:(runB c polys lost b).r = e3.X.map Prod.fst:=by rw [x3];exact hb 3 (by omega)
  have w0:WkL e0.X:=by rw [x0];exact runX_wk hc hp lost b 0
  have w1:WkL e1.X:=by rw [x1];exact runX_wk hc hp lost b 1
  have w2:WkL e2.X:=by rw [x2];exact runX_wk hc hp lost b 2
  have w3:WkL e3.X:=by rw [x3];exact runX_wk hc hp lost b 3
  have n0:=hn e0 (by simp)
  have n1:=hn e1 (by simp)
  have n2:=hn e2 (by simp)
  have n3:=hn e3 (by simp)
  have hw:VWL [e0.fv,e1.fv,e2.fv,e3.fv] [linV (runB c polys lost b).d,linV (runB c polys lost b).c,linV (runB c polys lost b).a,linV (runB c polys lost b).r]:=by
   rw [b0,b1,b2,b3]
   exact .cons (Ent.fv_vw w0 n0) (.cons (Ent.fv_vw w1 n1) (.cons (Ent.fv_vw w2 n2) (.cons (Ent.fv_vw w3 n3) .nil)))
  have ho:VOL [e0.fv,e1.fv,e2.fv,e3.fv] [linV (runB c polys lost b).d,linV (runB c polys lost b).c,linV (runB c polys lost b).a,linV (runB c polys lost b).r]:=by
   rw [b0,b1,b2,b3]
   exact .cons (Ent.fv_vo w0 n0) (.cons (Ent.fv_vo w1 n1) (.cons (Ent.fv_vo w2 n2) (.cons (Ent.fv_vo w3 n3) .nil)))
  exact VO.tup (.cons (VO.agg ho hw) (.cons (.refl _) .nil)) (.cons (VW.agg hw) (.cons (.refl _) .nil))
theorem PureC.weakE {P:Program} {f:FuncId} {ds:List V} {R:V→Prop} {e':V} (h:PureC P f ds R) (hw:∀ r,R r→VO r e'):PureC P f ds (fun r=>r = e') :=
 ⟨h.1,fun G w vals hG hd=>(h.2 G w vals hG hd).mono fun _ _ ⟨r,x,e1,h1,h2,G',bs,h3,h4,h5,h6,h7⟩=>⟨e',x,e1,rfl,h2,G',bs,h3,h4,h5,hw r h1 _ _ _ _ _ h6,h7⟩⟩
end Go.Dp
