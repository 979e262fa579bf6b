import Derived.Test.YtlbjgnkjicifhaaGreatDwTP
import Derived.Test.YtlbjgnkjicifhaaGreatDpE
import Derived.Test.YtlbjgnkjicifhaaGreatDsM2
namespace Go.Dp
open Go.RowKit Go.Proofs
attribute [local irreducible] wp wpOps wpOp1 CallW CallT kSeq kBlk kLoop kReg retP retR kAsg kRound kRf
set_option linter.unusedVariables false
theorem pmod (a m:Int) (k:Nat):(a % m) ^ k % m = a ^ k % m:=by
 induction k with
 | zero=>simp
 | succ k ih=>rw [Int.pow_succ,Int.pow_succ,Int.mul_emod,ih,Int.emod_emod,← Int.mul_emod]
theorem mul_small {a b m:Int} (ha:0≤a) (hb:0≤b) (h1:a < m) (h2:b < m) (hm:m < 2 ^ 31):0≤a * b∧a * b < 2 ^ 62:=by
 refine ⟨Int.mul_nonneg ha hb,?_⟩
 have h3:a * b≤2147483647 * 2147483647:=Int.mul_le_mul (by omega) (by omega) hb (by omega)
 omega
theorem sq_step (r b m:Int) (e:Int) (he:0 < e) (h:e % 2 = 1):(r * b % m * (b * b % m) ^ (e / 2).toNat) % m = (r * b ^ e.toNat) % m:=by
 have he2:e.toNat = 2 * (e / 2).toNat+1:=by omega
 rw [he2,Int.mul_emod,Int.emod_emod,pmod,← Int.mul_emod,Int.pow_succ,Int.pow_mul]
 congr 1
 rw [show (b ^ 2:Int) = b * b from by rw [Int.pow_succ,Int.pow_succ,Int.pow_zero,Int.one_mul]]
 rw [Int.mul_assoc,Int.mul_comm b]
theorem sq_step0 (r b m:Int) (e:Int) (he:0 < e) (h:¬ e % 2 = 1):(r * (b * b % m) ^ (e / 2).toNat) % m = (r * b ^ e.toNat) % m:=by
 have he2:e.toNat = 2 * (e / 2).toNat:=by omega
 rw [he2,Int.mul_emod,pmod,← Int.mul_emod,Int.pow_mul]
 congr 1
 rw [show (b ^ 2:Int) = b * b from by rw [Int.pow_succ,Int.pow_succ,Int.pow_zero,Int.one_mul]]
set_option maxRecDepth 10000 in
theorem k64 (b e m:Int) (hb:0≤b) (he:0≤e) (he2:e < 2^63) (hm:0 < m) (hm2:m < 2^31):PureC Tryz.prog 64 [.int .i64 b,.int .i64 e,.int .i64 m] (fun r=>r = .int .i64 (b ^ e.toNat % m)):=by
 refine pureC_of_wp .x mixed ok64 rfl ?_
 unfold c64
 dsimp only [argE]
 refine W.go ?_
 refine W.lp (fun x:Int × Int × Int=>[(0,.int .i64 x.1),(1,.int .i64 x.2.1),(2,.int .i64 m),(7,.int .i64 x.2.2)]) (fun _ _=>none)
  (fun x=>(0≤x.1∧x.1 < m)∧(0≤x.2.2∧x.2.2 < m)∧(0≤x.2.1∧x.2.1 < 2^63)∧(x.2.2 * x.1 ^ x.2.1.toNat) % m = b ^ e.toNat % m) (fun x=>x.2.1.toNat) (b % m,e,1 % m) rfl (HS.refl _) ?_ ?_
 ·refine ⟨⟨Int.emod_nonneg _ (by omega), Int.emod_lt_of_pos _ hm⟩, ⟨Int.emod_nonneg _ (by omega), Int.emod_lt_of_pos _ hm⟩, ⟨he, he2⟩, ?_⟩
  rw [Int.mul_emod,Int.emod_emod,pmod,← Int.mul_emod,Int.one_mul]
 rintro ⟨b',e',r⟩ nx ⟨⟨h1,h1'⟩,⟨h2,h2'⟩,⟨h3,h3'⟩,h4⟩ hnx
 dsimp only at *
 have p1:=mul_small h2 h1 h2' h1' hm2
 have p2:=mul_small h1 h1 h1' h1' hm2
 by_cases hz:0 < e'
 ·by_cases ho:e' % 2 = 1
  ·refine W.go ?_
   refine W.kl (b' * b' % m,e' / 2,r * b' % m) ?_ ?_ ?_ ?_ ?_
   ·exact rfl
   ·exact HS.refl _
   ·omega
   ·dsimp only; refine ⟨⟨Int.emod_nonneg _ (by omega), Int.emod_lt_of_pos _ hm⟩, ⟨Int.emod_nonneg _ (by omega), Int.emod_lt_of_pos _ hm⟩, ⟨by omega, by omega⟩, ?_⟩
    rw [sq_step _ _ _ _ (by assumption) (by assumption)];exact h4
   ·dsimp only;omega
  ·refine W.go ?_
   refine W.kl (b' * b' % m,e' / 2,r) ?_ ?_ ?_ ?_ ?_
   ·exact rfl
   ·exact HS.refl _
   ·omega
   ·dsimp only; refine ⟨⟨Int.emod_nonneg _ (by omega), Int.emod_lt_of_pos _ hm⟩, ⟨h2, h2'⟩, ⟨by omega, by omega⟩, ?_⟩
    rw [sq_step0 _ _ _ _ (by assumption) (by assumption)];exact h4
   ·dsimp only;omega
 ·refine W.go ?_
  have:e' = 0:=by omega
  subst this
  simp only [Int.toNat_zero,Int.pow_zero,Int.mul_one] at h4
  rw [← h4,Int.emod_eq_of_lt h2 h2']
noncomputable def primeB (n:Int):Bool:=@decide (PrimeI n) (Classical.propDecidable _)
theorem primeB_iff {n:Int}:primeB n = true↔PrimeI n:=by simp [primeB]
theorem primeB_of {n:Int} (h:PrimeI n):primeB n = true:=primeB_iff.2 h
theorem primeB_not {n:Int} (h:¬ PrimeI n):primeB n = false:=by
 cases e:primeB n
 ·rfl
 ·exact absurd (primeB_iff.1 e) h
theorem sq_le {d n:Int} (h1:2≤d) (h2:d * d≤n):2 * d≤n:=by
 have:2 * d≤d * d:=Int.mul_le_mul_of_nonneg_right h1 (by omega)
 omega
theorem sq_lt {d:Int} (h1:2≤d) (h2:d * d < 2 ^ 40):d < 2 ^ 20:=by
 by_cases h:d < 2 ^ 20
 ·exact h
 ·have : 2 ^ 20 * 2 ^ 20 ≤ d * d := Int.mul_le_mul (by omega) (by omega) (by omega) (by omega)
  omega
theorem sq_bd {d:Int} (h1:2≤d) (h2:d≤2 ^ 20):0≤d * d∧d * d≤2 ^ 40:=by
 have:d * d≤2 ^ 20 * 2 ^ 20:=Int.mul_le_mul (by omega) (by omega) (by omega) (by omega)
 exact ⟨Int.mul_nonneg (by omega) (by omega),by omega⟩
set_option maxRecDepth 10000 in
theorem k63 (n:Int) (h0:-2^63≤n) (hn:n < 2^40):PureC Tryz.prog 63 [.int .i64 n] (fun r=>r = .bool (primeB n)):=by
 refine pureC_of_wp .x mixed ok63 rfl ?_
 unfold c63
 dsimp only [argE]
 refine W.go ?_
 refine W.lp (fun d:Int=>[(0,.int .i64 n),(3,.int .i64 d)]) (fun _ _=>none)
  (fun d=>(2≤d∧d≤2 ^ 20)∧∀ e,2≤e→e < d→n % e≠0) (fun d=>(n+5 - d).toNat) 2 rfl (HS.refl _) ⟨by omega,fun e h1 h2=>by omega⟩ ?_
 rintro d nx ⟨⟨h1,h2⟩,h3⟩ hnx
 have p1:=sq_bd h1 h2
 by_cases hd:d * d≤n
 ·have p2:=sq_le h1 hd
  by_cases hz:n % d = 0
  ·refine W.go ?_
   rw [primeB_not]
   rintro ⟨a,b⟩
   exact b d h1 hd hz
  ·refine W.go ?_
   refine W.kl (d+1) rfl (HS.refl _) (by omega) ⟨⟨by omega,?_⟩,?_⟩ (by omega)
   ·have:=sq_lt h1 (by omega);omega
   ·intro e he1 he2
    by_cases he:e = d
    ·subst he;exact hz
    ·exact h3 e he1 (by omega)
 ·by_cases hg:1 < n
  ·refine W.go ?_
   rw [primeB_of]
   refine ⟨hg,fun e he1 he2=>?_⟩
   by_cases hed:e < d
   ·exact h3 e he1 hed
   ·exact absurd (Int.le_trans (Int.mul_le_mul (by omega:d≤e) (by omega:d≤e) (by omega) (by omega)) he2) hd
  ·refine W.go ?_
   rw [primeB_not]
   exact fun a=>hg a.1
set_option maxRecDepth 10000 in
theorem k135 (n:Int) (h0:-2^63≤n) (hn:n < 2^40):PureC Tryz.prog 135 [.int .i64 n] (fun r=>r = .bool (primeB n)):=by
 refine pureC_of_wp .x mixed ok135 rfl ?_
 unfold c135
 dsimp only [argE]
 refine W.go ?_
 refine W.lp (fun d:Int=>[(0,.int .i64 n),(3,.int .i64 d)]) (fun _ _=>none)
  (fun d=>(2≤d∧d≤2 ^ 20)∧∀ e,2≤e→e < d→n % e≠0) (fun d=>(n+5 - d).toNat) 2 rfl (HS.refl _) ⟨by omega,fun e h1 h2=>by omega⟩ ?_
 rintro d nx ⟨⟨h1,h2⟩,h3⟩ hnx
 have p1:=sq_bd h1 h2
 by_cases hd:d * d≤n
 ·have p2:=sq_le h1 hd
  by_cases hz:n % d = 0
  ·refine W.go ?_
   rw [primeB_not]
   rintro ⟨a,b⟩
   exact b d h1 hd hz
  ·refine W.go ?_
   refine W.kl (d+1) rfl (HS.refl _) (by omega) ⟨⟨by omega,?_⟩,?_⟩ (by omega)
   ·have:=sq_lt h1 (by omega);omega
   ·intro e he1 he2
    by_cases he:e = d
    ·subst he;exact hz
    ·exact h3 e he1 (by omega)
 ·by_cases hg:1 < n
  ·refine W.go ?_
   rw [primeB_of]
   refine ⟨hg,fun e he1 he2=>?_⟩
   by_cases hed:e < d
   ·exact h3 e he1 hed
   ·exact absurd (Int.le_trans (Int.mul_le_mul (by omega:d≤e) (by omega:d≤e) (by omega) (by omega)) he2) hd
  ·refine W.go ?_
   rw [primeB_not]
   exact fun a=>hg a.1
structure FindI (p R G K h:Int):Prop where
 hp:PrimeI p∧3≤p∧p≤65521
 hK:0≤K
 hR:R = p+1+K * p
 hR2:R < 2 ^ 31
 pr:PrimeI R
 mn:∀ k,0≤k→k < K→¬ PrimeI (p+1+k * p)
 h2:2≤h
 hh:h < R
 hG:G = h ^ ((R - 1) / p).toNat % R
 hG1:G≠1
 hmn:∀ i,2≤i→i < h→i ^ ((R - 1) / p).toNat % R = 1
set_option maxRecDepth 10000 in
theorem k25 {p R G K h:Int} (hf:FindI p R G K h):PureC Tryz.prog 25 [.int .i64 p] (fun r=>r = .tup [.agg [.int .i64 R,.int .i64 p,.int .i64 G],.bool true]):=by
 obtain ⟨⟨hp,hp1,hp2⟩,hK,hR,hR2,hpr,hmn,h2,hh,hG,hG1,hhm⟩:=hf
 refine pureC_of_wp .x mixed ok25 rfl ?_
 unfold c25
 dsimp only [argE]
 refine W.go ?_
 refine W.cl (k63 p (by omega) (by omega)) ?_
 rw [primeB_of hp]
 refine W.go ?_
 refine W.lp (fun r:Int=>[(0,.int .i64 p),(2,.ptr 0 0 0),(4,.int .i64 r)]) (fun _=>Hp.put (fun _=>none) 0 { cells:=[.int .i64 0,.int .i64 0,.int .i64 0],sz:=3 })
  (fun r=>∃ k,0≤k∧k≤K∧r = p+1+k * p) (fun r=>(R - r).toNat) (p+1) rfl (HS.refl _) ⟨0,by omega,hK,by omega⟩ ?_
 rintro r nx ⟨k,hk0,hk1,hr⟩ hnx
 have hrR:r≤R:=by
  have:k * p≤K * p:=Int.mul_le_mul_of_nonneg_right hk1 (by omega)
  omega
 have hr0:p+1≤r:=by
  have:0≤k * p:=Int.mul_nonneg hk0 (by omega)
  omega
 refine W.go ?_
 refine W.cl (k63 r (by omega) (by omega)) ?_
 by_cases hkK:k < K
 ·rw [primeB_not (by rw [hr]; exact hmn k hk0 hkK)]
  have hk2:(k+1) * p≤K * p:=Int.mul_le_mul_of_nonneg_right hkK (by omega)
  rw [Int.add_mul,Int.one_mul] at hk2
  refine W.go ?_
  refine W.kl (r+p) rfl (HS.refl _) (by omega) ⟨k+1,by omega,by omega,?_⟩ (by omega)
  rw [Int.add_mul];omega
 have hkK2:k = K:=by omega
 have hrR2:r = R:=by rw [hr,hR,hkK2]
 subst hrR2
 rw [primeB_of hpr]
 have hq0:0≤(r - 1) / p:=Int.ediv_nonneg (by omega) (by omega)
 have hq1:(r - 1) / p≤r - 1:=Int.ediv_le_self _ (by omega)
 refine W.go ?_
 refine W.lp (fun h:Int=>[(0,.int .i64 p),(2,.ptr 0 0 0),(4,.int .i64 r),(5,.int .i64 h)]) (fun _=>Hp.put (fun _=>none) 0 { cells:=[.int .i64 0,.int .i64 0,.int .i64 0],sz:=3 })
  (fun i=>2≤i∧i≤h) (fun i=>(h - i).toNat) 2 rfl (HS.refl _) ⟨by omega,h2⟩ ?_
 rintro i nx2 ⟨hi1,hi2⟩ hnx2
 refine W.go ?_
 refine W.cl (k64 i ((r - 1) / p) r (by omega) hq0 (by omega) (by omega) hR2) ?_
 by_cases hih:i < h
 ·rw [hhm i hi1 hih]
  refine W.go ?_
  refine W.kl (i+1) rfl (HS.refl _) (by omega) ⟨by omega,by omega⟩ (by omega)
 have:i = h:=by omega
 subst this
 rw [← hG]
 refine W.go ?_
 refine W.cl (k64 i ((r - 1) / p) r (by omega) hq0 (by omega) (by omega) hR2) ?_
 rw [← hG]
 refine W.go ?_
 rfl
def idxI {α:Type} (q:α→Bool):List α→Nat→Int
 | [],_=>-1
 | a::l,i=>if q a then (i:Int) else idxI q l (i+1)
theorem idxI_drop {α:Type} {q:α→Bool} {A:List α} {i:Nat} (h:i < A.length):idxI q (A.drop i) i = if q A[i] then (i:Int) else idxI q (A.drop (i+1)) (i+1):=by
 rw [List.drop_eq_getElem_cons h];rfl
theorem idxI_any {α:Type} {q:α→Bool}:∀ (A:List α) (i:Nat),(0≤idxI q A i↔A.any q = true)∧idxI q A i≤i+A.length
 | [],i=>by simp [idxI]
 | a::l,i=>by
  have ih:=idxI_any (q:=q) l (i+1)
  simp only [idxI,List.any_cons,List.length_cons]
  cases h:q a
  ·simp only [if_false,Bool.false_or,Bool.false_eq_true]
   refine ⟨ih.1,by have:=ih.2;omega⟩
  ·simp only [if_true,Bool.true_or,iff_true];omega
set_option maxRecDepth 10000 in
theorem k162 {α:Type} (e:α→V) (A:List α) (len:Nat) (hl:len = A.length) (hlen:A.length < 2 ^ 40) (g:FuncId) (caps:List V) (q:α→Bool) (ha:∀ a,(e a).atom = true) (hc:∀ v∈caps,v.atom = true) (hg:∀ a∈A,PureC Tryz.prog g (e a::caps) (fun r=>r = .bool (q a))) :
  PureC Tryz.prog 162 [.sl (A.map e) len,.clo (.func g) [] caps] (fun r=>r = .int .i64 (idxI q A 0)):=by
 subst hl
 refine pureC_of_wp .x mixed ok162 rfl ?_
 unfold c162
 dsimp only [argE]
 refine W.go ?_
 refine W.lp (fun i:Nat=>[(0,.sl (A.map e) A.length),(1,.clo (.func g) [] caps),(7,.int .i64 (A.length:Int)),(8,.int .i64 (i:Int))]) (fun _ _=>none)
  (fun i=>i≤A.length∧idxI q A 0 = idxI q (A.drop i) i) (fun i=>A.length - i) 0 rfl (HS.refl _) ⟨by omega,rfl⟩ ?_
 rintro i nx ⟨h1,h2⟩ hnx
 by_cases hi:i < A.length
 ·refine W.go ?_
  have ha':=ha A[i]
  refine W.cl (hg A[i] (List.getElem_mem hi)) ?_
  rw [idxI_drop hi] at h2
  cases hq:q A[i]
  ·rw [hq] at h2
   refine W.go ?_
   refine W.kl (i+1) rfl (HS.refl _) (by omega) ⟨by omega,?_⟩ (by omega)
   simpa using h2
  ·rw [hq] at h2
   refine W.go ?_
   rw [h2];rfl
 ·have : i = A.length := by omega
  subst this
  refine W.go ?_
  rw [h2,List.drop_length];rfl
set_option maxRecDepth 10000 in
theorem k110 {α:Type} (e:α→V) (A:List α) (len:Nat) (hl:len = A.length) (hlen:A.length < 2 ^ 40) (g:FuncId) (caps:List V) (q:α→Bool) (ha:∀ a,(e a).atom = true) (hc:∀ v∈caps,v.atom = true) (hg:∀ a∈A,PureC Tryz.prog g (e a::caps) (fun r=>r = .bool (q a))) :
  PureC Tryz.prog 110 [.sl (A.map e) len,.clo (.func g) [] caps] (fun r=>r = .bool (A.any q)):=by
 refine pureC_of_wp .x mixed ok110 rfl ?_
 unfold c110
 dsimp only [argE]
 refine W.go ?_
 refine W.cl (k162 e A len hl hlen g caps q ha hc hg) ?_
 have h:=idxI_any (q:=q) A 0
 cases hq:A.any q
 ·have : ¬ 0 ≤ idxI q A 0 := fun h' => by rw [h.1.1 h'] at hq; cases hq
  refine W.go ?_
  rfl
 ·have:0≤idxI q A 0:=h.1.2 hq
  refine W.go ?_
  rfl
set_option maxRecDepth 10000 in
theorem k171 (x lo hi:Int):PureC Tryz.prog 171 [.int .i64 x,.fp [.int .i64 lo] 0,.fp [.int .i64 hi] 0] (fun r=>r = .bool (decide (x < lo∨hi < x))):=by
 refine pureC_of_wp .x mixed ok171 rfl ?_
 unfold c171
 dsimp only [argE]
 by_cases h1:x < lo
 ·refine W.go ?_
  rw [decide_eq_true (.inl h1)]
 ·refine W.go ?_
  simp [h1]
def inB (lo hi:Int) (A:List Int):Bool:=A.all fun x=>decide (lo≤x∧x≤hi)
set_option maxRecDepth 10000 in
theorem k134 (lo hi:Int) (A:List Int) (len:Nat) (hl:len = A.length) (hlen:A.length < 2 ^ 40):PureC Tryz.prog 134 [.int .i64 lo,.int .i64 hi,.sl (A.map (V.int .i64)) len] (fun r=>r = .bool (inB lo hi A)):=by
 refine pureC_of_wp .x mixed ok134 rfl ?_
 unfold c134
 dsimp only [argE]
 refine W.go ?_
 refine W.cl (k110 (V.int .i64) A len hl hlen 171 [.fp [.int .i64 lo] 0,.fp [.int .i64 hi] 0] (fun x=>decide (x < lo∨hi < x)) (fun _=>rfl) (by simp [V.atom]) (fun a _=>k171 a lo hi)) ?_
 refine W.go ?_
 unfold inB
 rw [List.not_any_eq_all_not]
 congr 2
 funext x
 by_cases h1:x < lo <;> by_cases h2:hi < x <;> simp [h1,h2] <;> omega
end Go.Dp
