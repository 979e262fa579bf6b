import Derived.Test.YtlbjgnkjicifhaaGreatDwTP
import Derived.Test.YtlbjgnkjicifhaaGreatDpIt
import Derived.Test.YtlbjgnkjicifhaaGreatDsM2
namespace Go.Dp
open Go.RowKit Go.Proofs
attribute [local irreducible] wp wpOps wpOp1 CallW CallT kSeq kBlk kLoop kReg retP retR kAsg kRound kRf
set_option linter.unusedVariables false
theorem pmod (a m:Int) (k:Nat):(a % m) ^ k % m = a ^ k % m:=by
 induction k with
 | zero=>simp
 | succ k ih=>rw [Int.pow_succ,Int.pow_succ,Int.mul_emod,ih,Int.emod_emod,← Int.mul_emod]
theorem mul_small {a b m:Int} (ha:0≤a) (hb:0≤b) (h1:a < m) (h2:b < m) (hm:m < 2 ^ 31):0≤a * b∧a * b < 2 ^ 62:=by
 refine ⟨Int.mul_nonneg ha hb,?_⟩
 have h3:a * b≤2147483647 * 2147483647:=Int.mul_le_mul (by omega) (by omega) hb (by omega)
 omega
theorem sq_step (r b m:Int) (e:Int) (he:0 < e) (h:e % 2 = 1):(r * b % m * (b * b % m) ^ (e / 2).toNat) % m = (r * b ^ e.toNat) % m:=by
 have he2:e.toNat = 2 * (e / 2).toNat+1:=by omega
 rw [he2,Int.mul_emod,Int.emod_emod,pmod,← Int.mul_emod,Int.pow_succ,Int.pow_mul]
 congr 1
 rw [show (b ^ 2:Int) = b * b from by rw [Int.pow_succ,Int.pow_succ,Int.pow_zero,Int.one_mul]]
 rw [Int.mul_assoc,Int.mul_comm b]
theorem sq_step0 (r b m:Int) (e:Int) (he:0 < e) (h:¬ e % 2 = 1):(r * (b * b % m) ^ (e / 2).toNat) % m = (r * b ^ e.toNat) % m:=by
 have he2:e.toNat = 2 * (e / 2).toNat:=by omega
 rw [he2,Int.mul_emod,pmod,← Int.mul_emod,Int.pow_mul]
 congr 1
 rw [show (b ^ 2:Int) = b * b from by rw [Int.pow_succ,Int.pow_succ,Int.pow_zero,Int.one_mul]]
set_option maxRecDepth 10000 in
theorem k64 (b e m:Int) (hb:0≤b) (he:0≤e) (he2:e < 2^63) (hm:0 < m) (hm2:m < 2^31):PureC Tryz.prog 64 [.int .i64 b,.int .i64 e,.int .i64 m] (fun r=>r = .int .i64 (b ^ e.toNat % m)):=by
 refine pureC_of_wp .x mixed ok64 rfl ?_
 unfold c64
 dsimp only [argE]
 refine W.go ?_
 refine W.lp (fun x:Int × Int × Int=>[(0,.int .i64 x.1),(1,.int .i64 x.2.1),(2,.int .i64 m),(7,.int .i64 x.2.2)]) (fun _ _=>none)
  (fun x=>(0≤x.1∧x.1 < m)∧(0≤x.2.2∧x.2.2 < m)∧(0≤x.2.1∧x.2.1 < 2^63)∧(x.2.2 * x.1 ^ x.2.1.toNat) % m = b ^ e.toNat % m) (fun x=>x.2.1.toNat) (b % m,e,1 % m) rfl (HS.refl _) ?_ ?_
 ·refine ⟨⟨Int.emod_nonneg _ (by omega), Int.emod_lt_of_pos _ hm⟩, ⟨Int.emod_nonneg _ (by omega), Int.emod_lt_of_pos _ hm⟩, ⟨he, he2⟩, ?_⟩
  rw [Int.mul_emod,Int.emod_emod,pmod,← Int.mul_emod,Int.one_mul]
 rintro ⟨b',e',r⟩ nx ⟨⟨h1,h1'⟩,⟨h2,h2'⟩,⟨h3,h3'⟩,h4⟩ hnx
 dsimp only at *
 have p1:=mul_small h2 h1 h2' h1' hm2
 have p2:=mul_small h1 h1 h1' h1' hm2
 by_cases hz:0 < e'
 ·by_cases ho:e' % 2 = 1
  ·refine W.go ?_
   refine W.kl (b' * b' % m,e' / 2,r * b' % m) ?_ ?_ ?_ ?_ ?_
   ·exact rfl
   ·exact HS.refl _
   ·omega
   ·dsimp only; refine ⟨⟨Int.emod_nonneg _ (by omega), Int.emod_lt_of_pos _ hm⟩, ⟨Int.emod_nonneg _ (by omega), Int.emod_lt_of_pos _ hm⟩, ⟨by omega, by omega⟩, ?_⟩
    rw [sq_step _ _ _ _ (by assumption) (by assumption)];exact h4
   ·dsimp only;omega
  ·refine W.go ?_
   refine W.kl (b' * b' % m,e' / 2,r) ?_ ?_ ?_ ?_ ?_
   ·exact rfl
   ·exact HS.refl _
   ·omega
   ·dsimp only; refine ⟨⟨Int.emod_nonneg _ (by omega), Int.emod_lt_of_pos _ hm⟩, ⟨h2, h2'⟩, ⟨by omega, by omega⟩, ?_⟩
    rw [sq_step0 _ _ _ _ (by assumption) (by assumption)];exact h4
   ·dsimp only;omega
 ·refine W.go ?_
  have:e' = 0:=by omega
  subst this
  simp only [Int.toNat_zero,Int.pow_zero,Int.mul_one] at h4
  rw [← h4,Int.emod_eq_of_lt h2 h2']
noncomputable def primeB (n:Int):Bool:=@decide (PrimeI n) (Classical.propDecidable _)
theorem primeB_iff {n:Int}:primeB n = true↔PrimeI n:=by simp [primeB]
theorem primeB_of {n:Int} (h:PrimeI n):primeB n = true:=primeB_iff.2 h
theorem primeB_not {n:Int} (h:¬ PrimeI n):primeB n = false:=by
 cases e:primeB n
 ·rfl
 ·exact absurd (primeB_iff.1 e) h
theorem sq_le {d n:Int} (h1:2≤d) (h2:d * d≤n):2 * d≤n:=by
 have:2 * d≤d * d:=Int.mul_le_mul_of_nonneg_right h1 (by omega)
 omega
theorem sq_lt {d:Int} (h1:2≤d) (h2:d * d < 2 ^ 40):d < 2 ^ 20:=by
 by_cases h:d < 2 ^ 20
 ·exact h
 ·have : 2 ^ 20 * 2 ^ 20 ≤ d * d := Int.mul_le_mul (by omega) (by omega) (by omega) (by omega)
  omega
theorem sq_bd {d:Int} (h1:2≤d) (h2:d≤2 ^ 20):0≤d * d∧d * d≤2 ^ 40:=by
 have:d * d≤2 ^ 20 * 2 ^ 20:=Int.mul_le_mul (by omega) (by omega) (by omega) (by omega)
 exact ⟨Int.mul_nonneg (by omega) (by omega),by omega⟩
set_option maxRecDepth 10000 in
theorem k63 (n:Int) (h0:-2^63≤n) (hn:n < 2^40):PureC Tryz.prog 63 [.int .i64 n] (fun r=>r = .bool (primeB n)):=by
 refine pureC_of_wp .x mixed ok63 rfl ?_
 unfold c63
 dsimp only [argE]
 refine W.go ?_
 refine W.lp (fun d:Int=>[(0,.int .i64 n),(3,.int .i64 d)]) (fun _ _=>none)
  (fun d=>(2≤d∧d≤2 ^ 20)∧∀ e,2≤e→e < d→n % e≠0) (fun d=>(n+5 - d).toNat) 2 rfl (HS.refl _) ⟨by omega,fun e h1 h2=>by omega⟩ ?_
 rintro d nx ⟨⟨h1,h2⟩,h3⟩ hnx
 have p1:=sq_bd h1 h2
 by_cases hd:d * d≤n
 ·have p2:=sq_le h1 hd
  by_cases hz:n % d = 0
  ·refine W.go ?_
   rw [primeB_not]
   rintro ⟨a,b⟩
   exact b d h1 hd hz
  ·refine W.go ?_
   refine W.kl (d+1) rfl (HS.refl _) (by omega) ⟨⟨by omega,?_⟩,?_⟩ (by omega)
   ·have:=sq_lt h1 (by omega);omega
   ·intro e he1 he2
    by_cases he:e = d
    ·subst he;exact hz
    ·exact h3 e he1 (by omega)
 ·by_cases hg:1 < n
  ·refine W.go ?_
   rw [primeB_of]
   refine ⟨hg,fun e he1 he2=>?_⟩
   by_cases hed:e < d
   ·exact h3 e he1 hed
   ·exact absurd (Int.le_trans (Int.mul_le_mul (by omega:d≤e) (by omega:d≤e) (by omega) (by omega)) he2) hd
  ·refine W.go ?_
   rw [primeB_not]
   exact fun a=>hg a.1
set_option maxRecDepth 10000 in
theorem k135 (n:Int) (h0:-2^63≤n) (hn:n < 2^40):PureC Tryz.prog 135 [.int .i64 n] (fun r=>r = .bool (primeB n)):=by
 refine pureC_of_wp .x mixed ok135 rfl ?_
 unfold c135
 dsimp only [argE]
 refine W.go ?_
 refine W.lp (fun d:Int=>[(0,.int .i64 n),(3,.int .i64 d)]) (fun _ _=>none)
  (fun d=>(2≤d∧d≤2 ^ 20)∧∀ e,2≤e→e < d→n % e≠0) (fun d=>(n+5 - d).toNat) 2 rfl (HS.refl _) ⟨by omega,fun e h1 h2=>by omega⟩ ?_
 rintro d nx ⟨⟨h1,h2⟩,h3⟩ hnx
 have p1:=sq_bd h1 h2
 by_cases hd:d * d≤n
 ·have p2:=sq_le h1 hd
  by_cases hz:n % d = 0
  ·refine W.go ?_
   rw [primeB_not]
   rintro ⟨a,b⟩
   exact b d h1 hd hz
  ·refine W.go ?_
   refine W.kl (d+1) rfl (HS.refl _) (by omega) ⟨⟨by omega,?_⟩,?_⟩ (by omega)
   ·have:=sq_lt h1 (by omega);omega
   ·intro e he1 he2
    by_cases he:e = d
    ·subst he;exact hz
    ·exact h3 e he1 (by omega)
 ·by_cases hg:1 < n
  ·refine W.go ?_
   rw [primeB_of]
   refine ⟨hg,fun e he1 he2=>?_⟩
   by_cases hed:e < d
   ·exact h3 e he1 hed
   ·exact absurd (Int.le_trans (Int.mul_le_mul (by omega:d≤e) (by omega:d≤e) (by omega) (by omega)) he2) hd
  ·refine W.go ?_
   rw [primeB_not]
   exact fun a=>hg a.1
structure FindI (p R G K h:Int):Prop where
 hp:PrimeI p∧3≤p∧p≤65521
 hK:0≤K
 hR:R = p+1+K * p
 hR2:R < 2 ^ 31
 pr:PrimeI R
 mn:∀ k,0≤k→k < K→¬ PrimeI (p+1+k * p)
 h2:2≤h
 hh:h < R
 hG:G = h ^ ((R - 1) / p).toNat % R
 hG1:G≠1
 hmn:∀ i,2≤i→i < h→i ^ ((R - 1) / p).toNat % R = 1
set_option maxRecDepth 10000 in
theorem k25 {p R G K h:Int} (hf:FindI p R G K h):PureC Tryz.prog 25 [.int .i64 p] (fun r=>r = .tup [.agg [.int .i64 R,.int .i64 p,.int .i64 G],.bool true]):=by
 obtain ⟨⟨hp,hp1,hp2⟩,hK,hR,hR2,hpr,hmn,h2,hh,hG,hG1,hhm⟩:=hf
 refine pureC_of_wp .x mixed ok25 rfl ?_
 unfold c25
 dsimp only [argE]
 refine W.go ?_
 refine W.cl (k63 p (by omega) (by omega)) ?_
 rw [primeB_of hp]
 refine W.go ?_
 refine W.lp (fun r:Int=>[(0,.int .i64 p),(2,.ptr 0 0 0),(4,.int .i64 r)]) (fun _=>Hp.put (fun _=>none) 0 { cells:=[.int .i64 0,.int .i64 0,.int .i64 0],sz:=3 })
  (fun r=>∃ k,0≤k∧k≤K∧r = p+1+k * p) (fun r=>(R - r).toNat) (p+1) rfl (HS.refl _) ⟨0,by omega,hK,by omega⟩ ?_
 rintro r nx ⟨k,hk0,hk1,hr⟩ hnx
 have hrR:r≤R:=by
  have:k * p≤K * p:=Int.mul_le_mul_of_nonneg_right hk1 (by omega)
  omega
 have hr0:p+1≤r:=by
  have:0≤k * p:=Int.mul_nonneg hk0 (by omega)
  omega
 refine W.go ?_
 refine W.cl (k63 r (by omega) (by omega)) ?_
 by_cases hkK:k < K
 ·rw [primeB_not (by rw [hr]; exact hmn k hk0 hkK)]
  have hk2:(k+1) * p≤K * p:=Int.mul_le_mul_of_nonneg_right hkK (by omega)
  rw [Int.add_mul,Int.one_mul] at hk2
  refine W.go ?_
  refine W.kl (r+p) rfl (HS.refl _) (by omega) ⟨k+1,by omega,by omega,?_⟩ (by omega)
  rw [Int.add_mul];omega
 have hkK2:k = K:=by omega
 have hrR2:r = R:=by rw [hr,hR,hkK2]
 subst hrR2
 rw [primeB_of hpr]
 have hq0:0≤(r - 1) / p:=Int.ediv_nonneg (by omega) (by omega)
 have hq1:(r - 1) / p≤r - 1:=Int.ediv_le_self _ (by omega)
 refine W.go ?_
 refine W.lp (fun h:Int=>[(0,.int .i64 p),(2,.ptr 0 0 0),(4,.int .i64 r),(5,.int .i64 h)]) (fun _=>Hp.put (fun _=>none) 0 { cells:=[.int .i64 0,.int .i64 0,.int .i64 0],sz:=3 })
  (fun i=>2≤i∧i≤h) (fun i=>(h - i).toNat) 2 rfl (HS.refl _) ⟨by omega,h2⟩ ?_
 rintro i nx2 ⟨hi1,hi2⟩ hnx2
 refine W.go ?_
 refine W.cl (k64 i ((r - 1) / p) r (by omega) hq0 (by omega) (by omega) hR2) ?_
 by_cases hih:i < h
 ·rw [hhm i hi1 hih]
  refine W.go ?_
  refine W.kl (i+1) rfl (HS.refl _) (by omega) ⟨by omega,by omega⟩ (by omega)
 have:i = h:=by omega
 subst this
 rw [← hG]
 refine W.go ?_
 refine W.cl (k64 i ((r - 1) / p) r (by omega) hq0 (by omega) (by omega) hR2) ?_
 rw [← hG]
 refine W.go ?_
 rfl
def idxI {α:Type} (q:α→Bool):List α→Nat→Int
 | [],_=>-1
 | a::l,i=>if q a then (i:Int) else idxI q l (i+1)
theorem idxI_drop {α:Type} {q:α→Bool} {A:List α} {i:Nat} (h:i < A.length):idxI q (A.drop i) i = if q A[i] then (i:Int) else idxI q (A.drop (i+1)) (i+1):=by
 rw [List.drop_eq_getElem_cons h];rfl
theorem idxI_any {α:Type} {q:α→Bool}:∀ (A:List α) (i:Nat),(0≤idxI q A i↔A.any q = true)∧idxI q A i≤i+A.length
 | [],i=>by simp [idxI]
 | a::l,i=>by
  have ih:=idxI_any (q:=q) l (i+1)
  simp only [idxI,List.any_cons,List.length_cons]
  cases h:q a
  ·simp only [if_false,Bool.false_or,Bool.false_eq_true]
   refine ⟨ih.1,by have:=ih.2;omega⟩
  ·simp only [if_true,Bool.true_or,iff_true];omega
set_option maxRecDepth 10000 in
theorem k162 {α:Type} (e:α→V) (A:List α) (len:Nat) (hl:len = A.length) (hlen:A.length < 2 ^ 40) (g:FuncId) (caps:List V) (q:α→Bool) (ha:∀ a,(e a).atom = true) (hc:∀ v∈caps,v.atom = true) (hg:∀ a∈A,PureC Tryz.prog g (e a::caps) (fun r=>r = .bool (q a))) :
  PureC Tryz.prog 162 [.sl (A.map e) len,.clo (.func g) [] caps] (fun r=>r = .int .i64 (idxI q A 0)):=by
 subst hl
 refine pureC_of_wp .x mixed ok162 rfl ?_
 unfold c162
 dsimp only [argE]
 refine W.go ?_
 refine W.lp (fun i:Nat=>[(0,.sl (A.map e) A.length),(1,.clo (.func g) [] caps),(7,.int .i64 (A.length:Int)),(8,.int .i64 (i:Int))]) (fun _ _=>none)
  (fun i=>i≤A.length∧idxI q A 0 = idxI q (A.drop i) i) (fun i=>A.length - i) 0 rfl (HS.refl _) ⟨by omega,rfl⟩ ?_
 rintro i nx ⟨h1,h2⟩ hnx
 by_cases hi:i < A.length
 ·refine W.go ?_
  have ha':=ha A[i]
  refine W.cl (hg A[i] (List.getElem_mem hi)) ?_
  rw [idxI_drop hi] at h2
  cases hq:q A[i]
  ·rw [hq] at h2
   refine W.go ?_
   refine W.kl (i+1) rfl (HS.refl _) (by omega) ⟨by omega,?_⟩ (by omega)
   simpa using h2
  ·rw [hq] at h2
   refine W.go ?_
   rw [h2];rfl
 ·have : i = A.length := by omega
  subst this
  refine W.go ?_
  rw [h2,List.drop_length];rfl
set_option maxRecDepth 10000 in
theorem k110 {α:Type} (e:α→V) (A:List α) (len:Nat) (hl:len = A.length) (hlen:A.length < 2 ^ 40) (g:FuncId) (caps:List V) (q:α→Bool) (ha:∀ a,(e a).atom = true) (hc:∀ v∈caps,v.atom = true) (hg:∀ a∈A,PureC Tryz.prog g (e a::caps) (fun r=>r = .bool (q a))) :
  PureC Tryz.prog 110 [.sl (A.map e) len,.clo (.func g) [] caps] (fun r=>r = .bool (A.any q)):=by
 refine pureC_of_wp .x mixed ok110 rfl ?_
 unfold c110
 dsimp only [argE]
 refine W.go ?_
 refine W.cl (k162 e A len hl hlen g caps q ha hc hg) ?_
 have h:=idxI_any (q:=q) A 0
 cases hq:A.any q
 ·have : ¬ 0 ≤ idxI q A 0 := fun h' => by rw [h.1.1 h'] at hq; cases hq
  refine W.go ?_
  rfl
 ·have:0≤idxI q A 0:=h.1.2 hq
  refine W.go ?_
  rfl
set_option maxRecDepth 10000 in
theorem k171 (x lo hi:Int):PureC Tryz.prog 171 [.int .i64 x,.fp [.int .i64 lo] 0,.fp [.int .i64 hi] 0] (fun r=>r = .bool (decide (x < lo∨hi < x))):=by
 refine pureC_of_wp .x mixed ok171 rfl ?_
 unfold c171
 dsimp only [argE]
 by_cases h1:x < lo
 ·refine W.go ?_
  rw [decide_eq_true (.inl h1)]
 ·refine W.go ?_
  simp [h1]
def inB (lo hi:Int) (A:List Int):Bool:=A.all fun x=>decide (lo≤x∧x≤hi)
set_option maxRecDepth 10000 in
theorem k134 (lo hi:Int) (A:List Int) (len:Nat) (hl:len = A.length) (hlen:A.length < 2 ^ 40):PureC Tryz.prog 134 [.int .i64 lo,.int .i64 hi,.sl (A.map (V.int .i64)) len] (fun r=>r = .bool (inB lo hi A)):=by
 refine pureC_of_wp .x mixed ok134 rfl ?_
 unfold c134
 dsimp only [argE]
 refine W.go ?_
 refine W.cl (k110 (V.int .i64) A len hl hlen 171 [.fp [.int .i64 lo] 0,.fp [.int .i64 hi] 0] (fun x=>decide (x < lo∨hi < x)) (fun _=>rfl) (by simp [V.atom]) (fun a _=>k171 a lo hi)) ?_
 refine W.go ?_
 unfold inB
 rw [List.not_any_eq_all_not]
 congr 2
 funext x
 by_cases h1:x < lo <;> by_cases h2:hi < x <;> simp [h1,h2] <;> omega
set_option maxRecDepth 10000 in
theorem k93 (m a b:Int) (hm:0 < m) (h0:0≤a * b) (h1:a * b < 2 ^ 62):PureC Tryz.prog 93 [.int .i64 m,.int .i64 a,.int .i64 b] (fun r=>r = .int .i64 (a * b % m)):=by
 refine pureC_of_wp .x mixed ok93 rfl ?_
 unfold c93
 dsimp only [argE]
 refine W.go ?_
 rfl
set_option maxRecDepth 10000 in
theorem k173 (m a b:Int) (hm:0 < m) (h0:0≤a * b) (h1:a * b < 2 ^ 62):PureC Tryz.prog 173 [.int .i64 a,.int .i64 b,.fp [.clo (.func 93) [] []] 0,.fp [.int .i64 m] 0] (fun r=>r = .int .i64 (a * b % m)):=by
 refine pureC_of_wp .x mixed ok173 rfl ?_
 unfold c173
 dsimp only [argE]
 refine W.go ?_
 refine W.cl (k93 m a b hm h0 h1) ?_
 refine W.go ?_
 rfl
set_option maxRecDepth 10000 in
theorem k172 (b e m:Int) (hb:0≤b) (hbm:b < m) (he:0≤e) (he2:e < 2^63) (hm:1 < m) (hm2:m < 2^31):PureC Tryz.prog 172 [.clo (.func 173) [] [.fp [.clo (.func 93) [] []] 0,.fp [.int .i64 m] 0],.int .i64 1,.int .i64 b,.int .i64 e] (fun r=>r = .int .i64 (b ^ e.toNat % m)):=by
 refine pureC_of_wp .x mixed ok172 rfl ?_
 unfold c172
 dsimp only [argE]
 refine W.go ?_
 refine W.lp (fun x:Int × Int × Int=>[(0,.clo (.func 173) [] [.fp [.clo (.func 93) [] []] 0,.fp [.int .i64 m] 0]),(2,.int .i64 x.1),(3,.int .i64 x.2.1),(9,.int .i64 x.2.2)]) (fun _ _=>none)
  (fun x=>(0≤x.1∧x.1 < m)∧(0≤x.2.2∧x.2.2 < m)∧(0≤x.2.1∧x.2.1 < 2^63)∧(x.2.2 * x.1 ^ x.2.1.toNat) % m = b ^ e.toNat % m) (fun x=>x.2.1.toNat) (b,e,1) rfl (HS.refl _) ?_ ?_
 ·dsimp only
  refine ⟨⟨hb,hbm⟩,⟨by omega,hm⟩,⟨he,he2⟩,?_⟩
  rw [Int.one_mul]
 rintro ⟨b',e',r⟩ nx ⟨⟨h1,h1'⟩,⟨h2,h2'⟩,⟨h3,h3'⟩,h4⟩ hnx
 dsimp only at *
 have p1:=mul_small h2 h1 h2' h1' hm2
 have p2:=mul_small h1 h1 h1' h1' hm2
 by_cases hz:0 < e'
 ·by_cases ho:e' % 2 = 1
  ·refine W.go ?_
   refine W.cl (k173 m r b' (by omega) p1.1 p1.2) ?_
   refine W.go ?_
   refine W.cl (k173 m b' b' (by omega) p2.1 p2.2) ?_
   refine W.go ?_
   refine W.kl (b' * b' % m,e' / 2,r * b' % m) ?_ ?_ ?_ ?_ ?_
   ·exact rfl
   ·exact HS.refl _
   ·omega
   ·dsimp only; refine ⟨⟨Int.emod_nonneg _ (by omega), Int.emod_lt_of_pos _ (by omega)⟩, ⟨Int.emod_nonneg _ (by omega), Int.emod_lt_of_pos _ (by omega)⟩, ⟨by omega, by omega⟩, ?_⟩
    rw [sq_step _ _ _ _ (by assumption) (by assumption)];exact h4
   ·dsimp only;omega
  ·refine W.go ?_
   refine W.cl (k173 m b' b' (by omega) p2.1 p2.2) ?_
   refine W.go ?_
   refine W.kl (b' * b' % m,e' / 2,r) ?_ ?_ ?_ ?_ ?_
   ·exact rfl
   ·exact HS.refl _
   ·omega
   ·dsimp only; refine ⟨⟨Int.emod_nonneg _ (by omega), Int.emod_lt_of_pos _ (by omega)⟩, ⟨h2, h2'⟩, ⟨by omega, by omega⟩, ?_⟩
    rw [sq_step0 _ _ _ _ (by assumption) (by assumption)];exact h4
   ·dsimp only;omega
 ·refine W.go ?_
  have:e' = 0:=by omega
  subst this
  simp only [Int.toNat_zero,Int.pow_zero,Int.mul_one] at h4
  rw [← h4,Int.emod_eq_of_lt h2 h2']
set_option maxRecDepth 10000 in
theorem k136 (a e m:Int) (ha:0≤a) (he:0≤e) (he2:e < 2^63) (hm:1 < m) (hm2:m < 2^31):PureC Tryz.prog 136 [.int .i64 m,.int .i64 a,.int .i64 e] (fun r=>r = .int .i64 (a ^ e.toNat % m)):=by
 refine pureC_of_wp .x mixed ok136 rfl ?_
 unfold c136
 dsimp only [argE]
 refine W.go ?_
 refine W.cl (k172 (a % m) e m (Int.emod_nonneg _ (by omega)) (Int.emod_lt_of_pos _ (by omega)) he he2 hm hm2) ?_
 rw [pmod]
 refine W.go ?_
 rfl
theorem k134s (lo hi x:Int):PureC Tryz.prog 134 [.int .i64 lo,.int .i64 hi,.sl [.int .i64 x] 1] (fun r=>r = .bool (decide (lo≤x∧x≤hi))):=by
 have h:=k134 lo hi [x] 1 rfl (by simp)
 simpa [inB] using h
theorem k135t {n:Int} (h0:-2^63≤n) (hn:n < 2^40) (h:PrimeI n):PureC Tryz.prog 135 [.int .i64 n] (fun r=>r = .bool true):=by
 have:=k135 n h0 hn;rwa [primeB_of h] at this
set_option maxRecDepth 10000 in
theorem k88 {R P G:Int} (h:GroupI R P G):PureC Tryz.prog 88 [grp R P G] (fun r=>r = .int .i64 0):=by
 obtain ⟨hR,hP,hd,hG,pR,pP,one⟩:=h
 refine pureC_of_wp .x mixed ok88 rfl ?_
 unfold c88
 dsimp only [argE]
 refine W.go ?_
 refine W.cl (k134s 3 2147483647 R) ?_
 refine W.go ?_
 refine W.cl (k134s 3 65521 P) ?_
 refine W.go ?_
 refine W.cl (k134s 2 (R - 1) G) ?_
 refine W.go ?_
 refine W.cl (k135t (by omega) (by omega) pR) ?_
 refine W.go ?_
 refine W.cl (k135t (by omega) (by omega) pP) ?_
 refine W.go ?_
 refine W.cl (k136 G P R (by omega) (by omega) (by omega) (by omega) (by omega)) ?_
 refine W.go ?_
 rfl
set_option maxRecDepth 10000 in
theorem k169 (R P G:Int):PureC Tryz.prog 169 [grp R P G] (fun r=>r = .int .i64 R):=by
 refine pureC_of_wp .x mixed ok169 rfl ?_
 unfold c169
 dsimp only [argE]
 refine W.go ?_
 rfl
set_option maxRecDepth 10000 in
theorem k140 {R P G:Int} (hP:3≤P∧P≤65521) (A:List Int) (len:Nat) (hl:len = A.length) (hlen:A.length < 2 ^ 40):PureC Tryz.prog 140 [grp R P G,.sl (A.map (V.int .i64)) len] (fun r=>r = .bool (inB 0 (P - 1) A)):=by
 refine pureC_of_wp .x mixed ok140 rfl ?_
 unfold c140
 dsimp only [argE]
 refine W.go ?_
 refine W.cl (k134 0 (P - 1) A len hl hlen) ?_
 refine W.go ?_
 rfl
theorem k140s {R P G:Int} (hP:3≤P∧P≤65521) (x:Int):PureC Tryz.prog 140 [grp R P G,.sl [.int .i64 x] 1] (fun r=>r = .bool (decide (0≤x∧x < P))):=by
 have h:=k140 (R:=R) (G:=G) hP [x] 1 rfl (by simp)
 have e:decide (0≤x∧x < P) = decide (0≤x∧x≤P - 1):=by congr 1;apply propext;omega
 rw [e]
 simpa [inB] using h
set_option maxRecDepth 10000 in
theorem k166 {R P G:Int} (h:GroupI R P G) (n:Int) (hn:0≤n) (hn2:n < 2 ^ 63):PureC Tryz.prog 166 [grp R P G,.int .i64 n] (fun r=>r = .int .i64 (G ^ n.toNat % R)):=by
 obtain ⟨hR,hP,hd,hG,pR,pP,one⟩:=h
 refine pureC_of_wp .x mixed ok166 rfl ?_
 unfold c166
 dsimp only [argE]
 refine W.go ?_
 refine W.cl (k169 R P G) ?_
 refine W.go ?_
 refine W.cl (k136 G n R (by omega) (by omega) (by omega) (by omega) (by omega)) ?_
 refine W.go ?_
 rfl
set_option maxRecDepth 10000 in
theorem k203 {R P G:Int} (h:GroupI R P G) (x:Int) (h1:0≤x):PureC Tryz.prog 203 [.int .i64 x,.fp [.int .i64 R,.int .i64 P,.int .i64 G] 0] (fun r=>r = .bool (decide (x ^ P.toNat % R≠1))):=by
 obtain ⟨hR,hP,hd,hG,pR,pP,one⟩:=h
 refine pureC_of_wp .x mixed ok203 rfl ?_
 unfold c203
 dsimp only [argE]
 refine W.go ?_
 refine W.cl (k169 R P G) ?_
 refine W.go ?_
 refine W.cl (k136 x P R h1 (by omega) (by omega) (by omega) (by omega)) ?_
 refine W.go ?_
 rfl
set_option maxRecDepth 10000 in
theorem k165 {R P G:Int} (h:GroupI R P G) (A:List Int) (len:Nat) (hl:len = A.length) (hlen:A.length < 2 ^ 40):PureC Tryz.prog 165 [grp R P G,.sl (A.map (V.int .i64)) len] (fun r=>r = .bool (A.all (hasB R P))):=by
 have h':=h
 obtain ⟨hR,hP,hd,hG,pR,pP,one⟩:=h
 refine pureC_of_wp .x mixed ok165 rfl ?_
 unfold c165
 dsimp only [argE]
 refine W.go ?_
 refine W.cl (k134 1 (R - 1) A len hl hlen) ?_
 cases hb:inB 1 (R - 1) A
 ·refine W.go ?_
  have:A.all (hasB R P) = false:=by
   cases e:A.all (hasB R P)
   ·rfl
   ·exfalso
    rw [List.all_eq_true] at e
    have:inB 1 (R - 1) A = true:=by
     unfold inB;rw [List.all_eq_true];intro x hx
     have:=e x hx
     simp only [hasB,Bool.and_eq_true,decide_eq_true_eq] at this ⊢
     omega
    rw [hb] at this;cases this
  rw [this]
 ·have hin:∀ x∈A,1≤x∧x < R:=by
   intro x hx
   unfold inB at hb;rw [List.all_eq_true] at hb
   have:=hb x hx
   simp only [decide_eq_true_eq] at this
   omega
  refine W.go ?_
  refine W.cl (k110 (V.int .i64) A len hl hlen 203 [.fp [.int .i64 R,.int .i64 P,.int .i64 G] 0] (fun x=>decide (x ^ P.toNat % R≠1)) (fun _=>rfl) (by simp [V.atom]) (fun a ha=>k203 h' a (by have:=hin a ha;omega))) ?_
  refine W.go ?_
  congr 1
  rw [List.not_any_eq_all_not,Bool.eq_iff_iff,List.all_eq_true,List.all_eq_true]
  constructor
  ·intro hh x hx
   have:=hh x hx
   have h2:=hin x hx
   simpa [hasB,h2] using this
  ·intro hh x hx
   have:=hh x hx
   have h2:=hin x hx
   simpa [hasB,h2] using this
theorem k165s {R P G:Int} (h:GroupI R P G) (x:Int):PureC Tryz.prog 165 [grp R P G,.sl [.int .i64 x] 1] (fun r=>r = .bool (hasB R P x)):=by
 simpa using k165 h [x] 1 rfl (by simp)
set_option maxRecDepth 10000 in
theorem k116 {R P G:Int} (h:GroupI R P G) (x:Int):PureC Tryz.prog 116 [grp R P G,.int .i64 x] (fun r=>r = .bool (hasB R P x)):=by
 refine pureC_of_wp .x mixed ok116 rfl ?_
 unfold c116
 dsimp only [argE]
 refine W.go ?_
 refine W.cl (k88 h) ?_
 refine W.go ?_
 refine W.cl (k165s h x) ?_
 refine W.go ?_
 rfl
theorem find_ex {p:Int} (h:PrimeI p) (h1:3≤p) (h2:p≤65521):∃ R G K h,FindI p R G K h∧GroupI R p G:=by
 obtain ⟨K,⟨pR,hR⟩,hmin⟩:=exists_min (fun k:Nat=>k) (above_ex h h1 h2)
 have hK0:(0:Int)≤(K:Int) * p:=Int.mul_nonneg (by omega) (by omega)
 obtain ⟨R,hRe⟩:∃ R,R = p+1+(K:Int) * p:=⟨_,rfl⟩
 have hq:(R - 1) = p * (K+1):=by rw [hRe,Int.mul_add,Int.mul_one,Int.mul_comm];omega
 have hq1:(R - 1) / p = K+1:=by rw [hq];exact Int.mul_ediv_cancel_left _ (by omega)
 have hq2:(R - 1) % p = 0:=by rw [hq];exact Int.mul_emod_right _ _
 rw [← hRe] at pR hR
 have hk3:3 * ((K:Int)+1)≤p * (K+1):=Int.mul_le_mul_of_nonneg_right h1 (by omega)
 have hex:∃ m:Nat,2≤m∧(m:Int) < R∧(m:Int) ^ ((R - 1) / p).toNat % R≠1:=by
  rw [hq1]
  obtain ⟨a,a1,a2,a3⟩:=no_root (k:=((K:Int)+1).toNat) pR (by omega) (by omega)
  exact ⟨a.toNat,by omega,by omega,by rw [Int.toNat_of_nonneg (by omega)];exact a3⟩
 obtain ⟨m,⟨m1,m2,m3⟩,hmm⟩:=exists_min (fun k:Nat=>k) hex
 have hnd:¬ R ∣ (m:Int):=not_dvd_small (by omega) (by omega)
 have hG0:0≤(m:Int) ^ ((R - 1) / p).toNat % R:=Int.emod_nonneg _ (by omega)
 have hG1:(m:Int) ^ ((R - 1) / p).toNat % R < R:=Int.emod_lt_of_pos _ (by omega)
 have hone:((m:Int) ^ ((R - 1) / p).toNat % R) ^ p.toNat % R = 1:=by
  rw [pmod,← Int.pow_mul]
  have:((R - 1) / p).toNat * p.toNat = (R - 1).toNat:=by
   rw [hq1,hq]
   have:(((((K:Int)+1).toNat * p.toNat:Nat)):Int) = p * (K+1):=by
    rw [Int.natCast_mul,Int.toNat_of_nonneg (by omega),Int.toNat_of_nonneg (by omega),Int.mul_comm]
   omega
  rw [this];exact fermat pR hnd
 have hG2:(m:Int) ^ ((R - 1) / p).toNat % R≠0:=fun e=>by
  rw [e,Int.zero_pow (by omega)] at hone;simp at hone
 refine ⟨R,(m:Int) ^ ((R - 1) / p).toNat % R,K,m,⟨⟨h,h1,h2⟩,by omega,hRe,by omega,pR,?_,by omega,m2,rfl,m3,?_⟩,⟨by omega,⟨h1,h2⟩,hq2,⟨by omega,hG1⟩,pR,h,hone⟩⟩
 ·intro k hk0 hk1 hpk
  have:=hmin k.toNat (by
   refine ⟨by rw [Int.toNat_of_nonneg hk0];exact hpk,?_⟩
   rw [Int.toNat_of_nonneg hk0]
   have:k * p≤(K:Int) * p:=Int.mul_le_mul_of_nonneg_right (by omega) (by omega)
   omega)
  omega
 ·intro i hi0 hi1
  refine Classical.byContradiction fun hc=>?_
  have:=hmm i.toNat ⟨by omega,by omega,by rw [Int.toNat_of_nonneg (by omega)];exact hc⟩
  omega
end Go.Dp
namespace Go.Dp
open Go.RowKit Go.Proofs
attribute [local irreducible] wp wpOps wpOp1 CallW CallT kSeq kBlk kLoop kReg retP retR kAsg kRound kRf
set_option linter.unusedVariables false
set_option linter.unusedSimpArgs false
set_option maxRecDepth 10000 in
theorem k91 (R P G:Int):PureC Tryz.prog 91 [grp R P G] (fun r=>r = .int .i64 P):=by
 refine pureC_of_wp .x mixed ok91 rfl ?_
 unfold c91
 dsimp only [argE]
 refine W.go ?_
 rfl
set_option maxRecDepth 10000 in
theorem k95 (m a b:Int) (hm:0 < m) (ha:0≤a∧a < 2 ^ 62) (hb:0≤b∧b < 2 ^ 62):PureC Tryz.prog 95 [.int .i64 m,.int .i64 a,.int .i64 b] (fun r=>r = .int .i64 ((a+b) % m)):=by
 refine pureC_of_wp .x mixed ok95 rfl ?_
 unfold c95
 dsimp only [argE]
 refine W.go ?_
 rfl
def polyE (P:Int) (A:List Int):Int:=if A.length < 1∨16 < A.length then 2 else if inB 0 (P - 1) A = true then 0 else 1
set_option maxRecDepth 10000 in
theorem k157 {R P G:Int} (h:GroupI R P G) (A:List Int) (len:Nat) (hl:len = A.length) (hlen:A.length < 2 ^ 40):PureC Tryz.prog 157 [grp R P G,.sl (A.map (V.int .i64)) len] (fun r=>r = .int .i64 (polyE P A)):=by
 have c1:=k88 h
 have c2:=k140 (R:=R) (G:=G) h.hP A len hl hlen
 clear h
 subst hl
 refine pureC_of_wp .x mixed ok157 rfl ?_
 unfold c157 polyE
 dsimp only [argE]
 by_cases h1:A.length < 1
 ·rw [if_pos (.inl h1)]
  refine W.go ?_
  refine W.cl c1 ?_
  refine W.go ?_
  rfl
 by_cases h2:16 < A.length
 ·rw [if_pos (.inr h2)]
  refine W.go ?_
  refine W.cl c1 ?_
  refine W.go ?_
  rfl
 rw [if_neg (by omega)]
 cases hb:inB 0 (P - 1) A
 ·rw [hb] at c2
  refine W.go ?_
  refine W.cl c1 ?_
  refine W.go ?_
  refine W.cl c2 ?_
  refine W.go ?_
  rfl
 ·rw [hb] at c2
  refine W.go ?_
  refine W.cl c1 ?_
  refine W.go ?_
  refine W.cl c2 ?_
  refine W.go ?_
  rfl
set_option maxRecDepth 10000 in
theorem k158 {R P G:Int} (hP:3≤P∧P≤65521) (A:List Int) (len:Nat) (hl:len = A.length) (hlen:A.length < 2 ^ 40) (hA:∀ a∈A,0≤a∧a < P) (x:Int) (hx:0≤x):PureC Tryz.prog 158 [grp R P G,.sl (A.map (V.int .i64)) len,.int .i64 x] (fun r=>r = .int .i64 (valM P x A)):=by
 subst hl
 refine pureC_of_wp .x mixed ok158 rfl ?_
 unfold c158
 dsimp only [argE]
 refine W.go ?_
 refine W.lp (fun y:Int × Int=>[(1,.sl (A.map (V.int .i64)) A.length),(2,.int .i64 x),(3,.ptr 0 0 0),(7,.int .i64 y.2),(8,.int .i64 y.1)]) (fun _=>Hp.put (fun _=>none) 0 { cells:=[.int .i64 R,.int .i64 P,.int .i64 G],sz:=3 })
  (fun y=>(-1≤y.1∧y.1 < A.length)∧(0≤y.2∧y.2 < P)∧y.2 = valM P x (A.drop (y.1+1).toNat)) (fun y=>(y.1+1).toNat) ((A.length:Int) - 1,0) rfl (HS.refl _) ?_ ?_
 ·refine ⟨by dsimp only; omega, by dsimp only; omega, ?_⟩
  dsimp only
  rw [show ((A.length:Int) - 1+1).toNat = A.length by omega,List.drop_length];rfl
 rintro ⟨i,out⟩ nx ⟨⟨h1,h2⟩,h3,h4⟩ hnx
 dsimp only at *
 by_cases hi:0≤i
 ·have hlt : i.toNat < A.length := by omega
  have ha:=hA A[i.toNat] (List.getElem_mem hlt)
  have e1:0≤x % P∧x % P < P:=⟨Int.emod_nonneg _ (by omega),Int.emod_lt_of_pos _ (by omega)⟩
  have p1:=mul_small h3.1 e1.1 h3.2 e1.2 (by omega)
  have c1:=k93 P out (x % P) (by omega) p1.1 p1.2
  have e2:0≤out * (x % P) % P∧out * (x % P) % P < P:=⟨Int.emod_nonneg _ (by omega),Int.emod_lt_of_pos _ (by omega)⟩
  have c2:=k95 P (out * (x % P) % P) A[i.toNat] (by omega) (by omega) (by omega)
  refine W.go ?_
  refine W.cl (k91 R P G) ?_
  refine W.go ?_
  refine W.cl (k91 R P G) ?_
  refine W.go ?_
  refine W.cl c1 ?_
  refine W.go ?_
  refine W.cl c2 ?_
  refine W.go ?_
  refine W.kl (i - 1,_) rfl (HS.refl _) (by omega) ⟨by dsimp only;omega,⟨Int.emod_nonneg _ (by omega),Int.emod_lt_of_pos _ (by omega)⟩,?_⟩ (by dsimp only;omega)
  dsimp only
  rw [show (i - 1+1).toNat = i.toNat by omega,List.drop_eq_getElem_cons hlt,h4,show (i+1).toNat = i.toNat+1 by omega]
  rfl
 ·refine W.go ?_
  rw [h4,show (i+1).toNat = 0 by omega]
  rfl
theorem polyE_len {P:Int} {A:List Int} (h:polyE P A = 0):1≤A.length∧A.length≤16:=by
 unfold polyE at h
 split at h
 ·omega
 ·omega
theorem polyE_rng {P:Int} {A:List Int} (h:polyE P A = 0):∀ a∈A,0≤a∧a < P:=by
 have hl:=polyE_len h
 unfold polyE at h
 rw [if_neg (by omega)] at h
 split at h
 ·rename_i hb
  intro a ha
  have:=List.all_eq_true.1 hb a ha
  simp only [decide_eq_true_eq] at this
  omega
 ·omega
set_option maxRecDepth 10000 in
theorem k119 {R P G:Int} (h:GroupI R P G) (A:List Int) (len:Nat) (hl:len = A.length) (hlen:A.length < 2 ^ 40) (hA:polyE P A = 0):PureC Tryz.prog 119 [grp R P G,.sl (A.map (V.int .i64)) len] (fun r=>r = .tup [.own ((comM R G A).map (V.int .i64)) len 1,.int .i64 0]):=by
 have c1:=k157 h A len hl hlen
 rw [hA] at c1
 have hP:=h.hP
 subst hl
 refine pureC_of_wp (.l [.s 1,.x]) mixed ok119 rfl ?_
 unfold c119
 dsimp only [argE]
 have hlen1:=polyE_len hA
 have hA2:=polyE_rng hA
 refine W.run ?_
 refine W.lp (fun i:Nat=>[(2,.ptr 0 0 0),(7,.ref 72 i 0 i),(16,.sl (A.map (V.int .i64)) A.length),(17,.int .i64 (A.length:Int)),(18,.int .i64 (i:Int))]) (fun i=>Hp.put (Hp.put (fun _=>none) 0 { cells:=[.int .i64 R,.int .i64 P,.int .i64 G],sz:=3 }) 72 { cells:=((A.take i).map fun a=>G ^ a.toNat % R).map (V.int .i64),sz:=1,ver:=i,nl:=if i = 0 then 1 else 0 })
  (fun i=>i≤A.length) (fun i=>A.length - i) 0 rfl (HS.refl _) (by omega) ?_
 rintro i nx hi hnx
 by_cases hlt:i < A.length
 ·have ha:=hA2 A[i] (List.getElem_mem hlt)
  have c2:=k166 h A[i] ha.1 (by omega)
  clear h
  have hln:(((A.take i).map fun a=>G ^ a.toNat % R).map (V.int .i64)).length = i:=by simp;omega
  refine W.run ?_
  refine W.kl (i+1) rfl (HS.skip (HS.put ?_ (HS.refl _)) ?_ _) (by omega) (by omega) (by omega)
  ·rw [if_neg (by omega),← List.take_append_getElem hlt,List.map_append,List.map_append];rfl
  ·simp only [Hp.put];rw [if_neg (by omega),if_neg (by omega)]
 ·have : i = A.length := by omega
  subst this
  rw [List.take_length,if_neg (by omega)]
  refine W.run ?_
  rfl
set_option maxRecDepth 10000 in
theorem k119e {R P G:Int} (h:GroupI R P G) (A:List Int) (len:Nat) (hl:len = A.length) (hlen:A.length < 2 ^ 40) (hA:polyE P A≠0):PureC Tryz.prog 119 [grp R P G,.sl (A.map (V.int .i64)) len] (fun r=>r = .tup [.own [] 0 1,.int .i64 (polyE P A)]):=by
 have c1:=k157 h A len hl hlen
 refine pureC_of_wp (.l [.s 1,.x]) mixed ok119 rfl ?_
 unfold c119
 dsimp only [argE]
 clear h
 refine W.run ?_
 rfl
def shM (P:Int) (A:List Int) (n:Nat):List Int:=(List.range n).map fun x:Nat=>valM P ((x:Int)+1) A
theorem shM_len (P:Int) (A:List Int) (n:Nat):(shM P A n).length = n:=by simp [shM]
theorem shM_succ (P:Int) (A:List Int) (n:Nat):shM P A (n+1) = shM P A n++[valM P ((n:Int)+1) A]:=by simp [shM,List.range_succ]
theorem shM_get {P:Int} {A:List Int} {n i:Nat} (h:i < (shM P A n).length):(shM P A n)[i] = valM P ((i:Int)+1) A:=by simp [shM]
set_option maxRecDepth 10000 in
theorem k105 {R P G:Int} (h:GroupI R P G) (A:List Int) (len:Nat) (hl:len = A.length) (hlen:A.length < 2 ^ 40) (hA:polyE P A = 0) (n:Nat) (hn:1≤n∧n≤64∧(n:Int) < P):PureC Tryz.prog 105 [grp R P G,.sl (A.map (V.int .i64)) len,.int .i64 (n:Int)] (fun r=>r = .tup [.own ((shM P A n).map (V.int .i64)) n 1,.int .i64 0]):=by
 have c1:=k157 h A len hl hlen
 rw [hA] at c1
 have hP:=h.hP
 subst hl
 refine pureC_of_wp (.l [.s 1,.x]) mixed ok105 rfl ?_
 unfold c105
 dsimp only [argE]
 have hlen1:=polyE_len hA
 have hA2:=polyE_rng hA
 obtain ⟨hn1,hn2,hn3⟩:=hn
 refine W.run ?_
 refine W.lp (fun i:Nat=>[(1,.sl (A.map (V.int .i64)) A.length),(3,.ptr 0 0 0),(9,.ref 168 i 0 i),(29,.int .i64 (n:Int)),(30,.int .i64 (i:Int))]) (fun i=>Hp.put (Hp.put (fun _=>none) 0 { cells:=[.int .i64 R,.int .i64 P,.int .i64 G],sz:=3 }) 168 { cells:=(shM P A i).map (V.int .i64),sz:=1,ver:=i,nl:=if i = 0 then 1 else 0 })
  (fun i=>i≤n) (fun i=>n - i) 0 rfl (HS.refl _) (by omega) ?_
 rintro i nx hi hnx
 by_cases hlt:i < n
 ·have c2 := k158 (R := R) (G := G) hP A A.length rfl hlen hA2 ((i : Int) + 1) (by omega)
  clear h
  have hln:=shM_len P A i
  refine W.run ?_
  refine W.kl (i+1) rfl (HS.skip (HS.put ?_ (HS.refl _)) ?_ _) (by omega) (by omega) (by omega)
  ·rw [if_neg (by omega),shM_succ,List.map_append];rfl
  ·simp only [Hp.put];rw [if_neg (by omega),if_neg (by omega)]
 ·have : i = n := by omega
  subst this
  rw [if_neg (by omega)]
  have hln:=shM_len P A i
  refine W.run ?_
  rfl
theorem polyE_of {P:Int} {A:List Int} (h1:1≤A.length∧A.length≤16) (h2:∀ a∈A,0≤a∧a < P):polyE P A = 0:=by
 unfold polyE
 rw [if_neg (by omega),if_pos]
 exact List.all_eq_true.2 fun a ha=>by have:=h2 a ha;simp only [decide_eq_true_eq];omega
def B64 (x:Int):Prop:=-9223372036854775808≤x∧x < 9223372036854775808
end Go.Dp
