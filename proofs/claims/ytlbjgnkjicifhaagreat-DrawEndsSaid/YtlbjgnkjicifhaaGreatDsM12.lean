import Derived.Test.YtlbjgnkjicifhaaGreatDsM2
import Derived.Test.YtlbjgnkjicifhaaGreatDsM10
namespace Go.Dp
open Go.RowKit
set_option linter.unusedVariables false
theorem sub_ndvd {R x y:Int} (hx:0≤x∧x < R) (hy:0≤y∧y < R) (hne:x≠y):¬ R ∣ y - x:=by
 rintro ⟨q,hq⟩
 by_cases h3:0 < q
 ·have : R * 1 ≤ R * q := Int.mul_le_mul_of_nonneg_left h3 (by omega)
  omega
 ·by_cases h4:q = 0
  ·subst h4;omega
  ·have : R * q ≤ R * (-1) := Int.mul_le_mul_of_nonneg_left (by omega) (by omega)
   omega
theorem has_log {R P G:Int} (h:GroupI R P G) {x:Int} (hx:hasB R P x = true):∃ a,(0≤a∧a < P)∧G ^ a.toNat % R = x:=by
 rw [hasB_iff] at hx
 have hR:=h.hR
 have hP:=h.hP
 refine Classical.byContradiction fun hn=>?_
 have hne:∀ a:Int,0≤a∧a < P→G ^ a.toNat % R≠x:=fun a ha e=>hn ⟨a,ha,e⟩
 have hrg:∀ a:Int,0≤G ^ a.toNat % R∧G ^ a.toNat % R < R:=fun a=>⟨Int.emod_nonneg _ (by omega),Int.emod_lt_of_pos _ (by omega)⟩
 let as:List Int:=x::(List.range P.toNat).map fun i:Nat=>G ^ (i:Int).toNat % R
 have hp:as.Pairwise fun a b=>¬ R ∣ b - a:=by
  refine List.pairwise_cons.2 ⟨fun y hy=>?_,?_⟩
  ·obtain ⟨i,hi,rfl⟩:=List.mem_map.1 hy
   rw [List.mem_range] at hi
   exact sub_ndvd (by omega) (hrg i) fun e=>hne i (by omega) e.symm
  ·rw [List.pairwise_map]
   refine (List.Pairwise.and_mem.1 (List.nodup_range (n:=P.toNat))).imp ?_
   rintro i j ⟨hi,hj,hij⟩
   rw [List.mem_range] at hi hj
   exact sub_ndvd (hrg i) (hrg j) fun e=>by
    have:=el_inj h (a:=i) (b:=j) (by omega) (by omega) e
    omega
 have hr:∀ a∈as,R ∣ evI (xk (-1) P.toNat) a:=fun a ha=>by
  have hb:a ^ P.toNat % R = 1:=by
   rcases List.mem_cons.1 ha with rfl | ha
   ·exact hx.2
   ·obtain ⟨i,_,rfl⟩:=List.mem_map.1 ha
    exact ((hasB_iff.1 (hasB_pow h i))).2
  rw [evI_xk _ _ (by omega)]
  have h3:a ^ P.toNat % R = 1 % R:=by rw [hb];exact (Int.emod_eq_of_lt (by omega) (by omega)).symm
  have:=dvd_sub_of_emod h3
  rwa [show -1+a ^ P.toNat = a ^ P.toNat - 1 by omega]
 have h5:=roots_all h.pR as (xk (-1) P.toNat) (by simp [as,xk];omega) hp hr 0
 rw [evI_xk _ _ (by omega),Int.zero_pow (by omega)] at h5
 obtain ⟨q,hq⟩:=h5
 have:=sub_ndvd (R:=R) (x:=1) (y:=0) (by omega) (by omega) (by omega)
 exact this ⟨q,by omega⟩
theorem com_log {R P G:Int} (h:GroupI R P G):∀ {A:List Int},A.all (hasB R P) = true→∃ a:List Int,comM R G a = A∧a.length = A.length∧∀ x∈a,0≤x∧x < P
 | [],_=>⟨[],rfl,rfl,by simp⟩
 | x::A,hA=>by
  rw [List.all_cons,Bool.and_eq_true] at hA
  obtain ⟨a,e,hl,hr⟩:=com_log h hA.2
  obtain ⟨y,hy,e2⟩:=has_log h hA.1
  refine ⟨y::a,by rw [← e,← e2];rfl,by simp [hl],fun z hz=>?_⟩
  rcases List.mem_cons.1 hz with rfl | hz
  ·exact hy
  ·exact hr z hz
theorem com_inj {R P G:Int} (h:GroupI R P G):∀ {a b:List Int},(∀ x∈a,0≤x∧x < P)→(∀ x∈b,0≤x∧x < P)→comM R G a = comM R G b→a = b
 | [],[],_,_,_=>rfl
 | [],_::_,_,_,e=>by simp [comM] at e
 | _::_,[],_,_,e=>by simp [comM] at e
 | x::a,y::b,ha,hb,e=>by
  simp only [comM,List.map_cons,List.cons.injEq] at e
  have h1:=el_inj h (ha x (by simp)) (hb y (by simp)) e.1
  have h2:=com_inj h (a:=a) (b:=b) (fun z hz=>ha z (by simp [hz])) (fun z hz=>hb z (by simp [hz])) e.2
  rw [h1,h2]
def SharesOf (P:Int) (a X S:List Int):Prop:=S = X.map fun x=>valM P x a
theorem SharesOf.look {P:Int} {a:List Int}:∀ {X S:List Int},SharesOf P a X S→∀ z∈X,lookI X S z = valM P z a
 | [],_,_,z,hz=>by cases hz
 | x::X,S,h,z,hz=>by
  unfold SharesOf at h
  subst h
  show (if z = x then valM P x a else lookI X (X.map fun x=>valM P x a) z) = _
  by_cases e:z = x
  ·rw [if_pos e,e]
  ·rw [if_neg e]
   exact SharesOf.look rfl z ((List.mem_cons.1 hz).resolve_left e)
theorem SharesOf.inF {P:Int} (hP:0 < P) {a X S:List Int} (h:SharesOf P a X S):InF P S:=fun s hs=>by
 unfold SharesOf at h
 subst h
 obtain ⟨x,_,rfl⟩:=List.mem_map.1 hs
 exact valM_rng hP a
theorem newt_shares {P:Int} (h:PrimeI P) (hP:3≤P) {X S a:List Int} (hX:InF P X) (hn:X.Nodup) (ha:InF P a) (hl:a.length≤X.length) (hs:SharesOf P a X S) :
  newtF P X S [] [1]++List.replicate (X.length - (newtF P X S [] [1]).length) 0 = a++List.replicate (X.length - a.length) 0:=by
 have hlen:X.length = S.length:=by unfold SharesOf at hs;rw [hs,List.length_map]
 obtain ⟨a1,a2,a3⟩:=newtF_all h hP hlen hX (hs.inF (by omega)) hn
 exact pad_uniq h hX hn a1 ha a2 hl fun z hz=>by rw [a3 z hz,hs.look z hz,valM_ev,Int.emod_emod]
theorem evI_zero:∀ l:List Int,evI l 0 = l.headD 0
 | []=>rfl
 | a::l=>by show a+0 * evI l 0 = a;omega
theorem newt_zero {P:Int} (h:PrimeI P) (hP:3≤P) {X S a:List Int} (hX:InF P X) (hn:X.Nodup) (ha:InF P a) (hl:a.length≤X.length) (hs:SharesOf P a X S) :
  valM P 0 (newtF P X S [] [1]) = a.headD 0:=by
 have e:=congrArg (fun l=>evI l 0) (newt_shares h hP hX hn ha hl hs)
 simp only [evI_pad] at e
 rw [valM_ev,e,evI_zero]
 cases a with
 | nil=>simp
 | cons x a=>exact Int.emod_eq_of_lt (ha x (by simp)).1 (ha x (by simp)).2
end Go.Dp
