import Derived.Test.YtlbjgnkjicifhaaGreatDwE4
namespace Go.Dp
open Go.RowKit Go.Proofs
attribute [local irreducible] wp wpOps wpOp1 CallW CallT kSeq kBlk kLoop kReg retP retR kAsg kRound kRf kCut kItr
set_option linter.unusedVariables false
set_option linter.unusedSimpArgs false
theorem rowM_drop {P a:Int} {i j:Nat} {q C:List Int} (h:j < q.length):rowM P a i (q.drop j) j C = rowM P a i (q.drop (j+1)) (j+1) (C.set (i+j) ((C.getD (i+j) 0+a * q[j] % P) % P)):=by
 rw [List.drop_eq_getElem_cons h];rfl
theorem prodM_drop {P:Int} {i:Nat} {p q C:List Int} (h:i < p.length):prodM P q (p.drop i) i C = prodM P q (p.drop (i+1)) (i+1) (rowM P p[i] i q 0 C):=by
 rw [List.drop_eq_getElem_cons h];rfl
set_option maxRecDepth 10000 in
set_option maxHeartbeats 1000000 in
theorem k191 (P g:Int) (hP:3≤P∧P < 2 ^ 31) (A B:List Int) (hA:A.length < 2 ^ 30) (hB:B.length < 2 ^ 30) (hrA:InF P A) (hrB:InF P B) (h0:A.length≠0) (h1:B.length≠0):PureC Tryz.prog 191 [fieldV P g,slI A,slI B] (fun r=>r = slI (timesF P A B)):=by
 have m1:=mt1
 have m2:=mt2
 refine pureC_of_wp .x mixed ok191 rfl ?_
 unfold c191
 dsimp only [argE,fieldV,fldC]
 have e:timesF P A B = trimI (convF P A B):=by unfold timesF;rw [if_neg (by omega)]
 rw [e]
 obtain ⟨n,hnn⟩:∃ n,n = A.length+B.length - 1:=⟨_,rfl⟩
 have hcl:(convF P A B).length = n:=by rw [convF_len,hnn]
 have hn:((A.length:Int)+(B.length:Int) - 1).toNat = n:=by omega
 refine W.run ?_
 rw [hn,zeros_map]
 refine W.run ?_
 refine W.lp (fun y:Nat × List Int=>[(0,fieldV P g),(2,slI B),(7,.ref 120 0 0 n),(27,slI A),(28,.int .i64 (A.length:Int)),(29,.int .i64 (y.1:Int))]) (fun y=>Hp.put (fun _=>none) 120 { cells:=y.2.map (V.int .i64),sz:=1 })
   (fun y=>y.1≤A.length∧y.2.length = n∧InF P y.2∧prodM P B (A.drop y.1) y.1 y.2 = convF P A B) (fun y=>A.length - y.1) (0,List.replicate n 0) rfl (HS.refl _) ⟨by dsimp only;omega,by simp,InF.rep (by omega) n,by rw [List.drop_zero,hnn];rfl⟩ ?_
 rintro ⟨i,C⟩ nx ⟨hi,hl,hC,hpr⟩ hnx
 dsimp only [fieldV,fldC] at hi hl hC hpr ⊢
 by_cases hlt:i < A.length
 ·rw [prodM_drop hlt] at hpr
  refine W.run ?_
  refine W.lp (fun y:Nat × List Int=>[(0,fieldV P g),(2,slI B),(7,.ref 120 0 0 n),(8,.int .i64 (i:Int)),(9,.int .i64 A[i]),(27,slI A),(28,.int .i64 (A.length:Int)),(29,.int .i64 (i:Int)),(34,slI B),(35,.int .i64 (B.length:Int)),(36,.int .i64 (y.1:Int))]) (fun y=>Hp.put (fun _=>none) 120 { cells:=y.2.map (V.int .i64),sz:=1 })
   (fun y=>y.1≤B.length∧y.2.length = n∧InF P y.2∧rowM P A[i] i (B.drop y.1) y.1 y.2 = rowM P A[i] i B 0 C) (fun y=>B.length - y.1) (0,C) rfl (HS.refl _) ⟨by dsimp only;omega,hl,hC,by rw [List.drop_zero]⟩ ?_
  rintro ⟨j,D⟩ nx1 ⟨hj,hl1,hD,hro⟩ hnx1
  dsimp only [fieldV,fldC] at hj hl1 hD hro ⊢
  by_cases hjt:j < B.length
  ·rw [rowM_drop hjt] at hro
   have hi1:i+j < D.length:=by omega
   have hidx:((i:Int)+(j:Int)).toNat = i+j:=by omega
   have hi2:((i:Int)+(j:Int)).toNat < D.length:=by omega
   have ha:=hrA A[i] (List.getElem_mem hlt)
   have hb:=hrB B[j] (List.getElem_mem hjt)
   have hc:=hD (D[((i:Int)+(j:Int)).toNat]'hi2) (List.getElem_mem _)
   have c1:=k271 P A[i] B[j] (by omega) ha hb
   have c2:=k272 P (D[((i:Int)+(j:Int)).toNat]'hi2) (A[i] * B[j] % P) (by omega) hc (emod_rng (by omega))
   refine W.run ?_
   refine W.kl (j+1,D.set (i+j) ((D.getD (i+j) 0+A[i] * B[j] % P) % P)) rfl ?_ (by omega) ⟨by dsimp only;omega,by simpa using hl1,hD.set _ (emod_rng (by omega)),hro⟩ (by dsimp only;omega)
   refine HS.put ?_ (HS.refl _)
   rw [← hidx,List.getD_eq_getElem?_getD,List.getElem?_eq_getElem hi2,Option.getD_some,List.set_eq_take_append_cons_drop,if_pos hi2];simp
  ·have : j = B.length := by omega
   subst this
   rw [List.drop_length] at hro
   refine W.run ?_
   refine W.kl (i+1,D) rfl (HS.refl _) (by omega) ⟨by dsimp only;omega,hl1,hD,?_⟩ (by dsimp only;omega)
   dsimp only
   rw [← hpr,← hro];rfl
 ·have : i = A.length := by omega
  subst this
  rw [List.drop_length] at hpr
  have c3:=k208 C (by omega)
  have c4:PureC Tryz.prog 208 [.sl (C.map (V.int .i64)) n] (fun r=>r = slI (trimI C)):=by rw [← hl];exact c3
  refine W.run ?_
  rw [← hpr];rfl
theorem newtF_drop {P:Int} {i:Nat} {xs ys out zero:List Int} (h1:i < xs.length) (h2:i < ys.length):newtF P (xs.drop i) (ys.drop i) out zero = newtF P (xs.drop (i+1)) (ys.drop (i+1)) (plusF P out (((ys[i] - valM P xs[i] out+P) % P) * (valM P xs[i] zero ^ (P - 2).toNat % P) % P) zero) (timesF P zero [(0 - xs[i]+P) % P,1]):=by
 rw [List.drop_eq_getElem_cons h1,List.drop_eq_getElem_cons h2];rfl
theorem zero_new {P x:Int} (h:PrimeI P) {zero done:List Int} (hz:∀ z,evI zero z % P = prodAt z done * (-1) ^ done.length % P) (hx:∀ w∈done,¬ P ∣ w - x):¬ P ∣ valM P x zero:=by
 rw [valM_ev,hz]
 intro hdv
 have e:=Int.emod_eq_zero_of_dvd hdv
 rw [Int.emod_emod] at e
 rcases h.mul (Int.dvd_of_emod_eq_zero e) with h4 | h4
 ·exact prodAt_ndvd h done hx h4
 ·have:∀ n:Nat,¬ P ∣ (-1:Int) ^ n:=by
   intro n
   induction n with
   | zero=>simpa using not_dvd_small (by omega) h.1
   | succ n ih =>
    intro hdv
    rw [Int.pow_succ] at hdv
    rcases h.mul hdv with h5 | h5
    ·exact ih h5
    ·have : P ∣ 1 := by have := Int.dvd_neg.2 h5; simpa using this
     exact not_dvd_small (by omega) h.1 this
  exact this _ h4
theorem zero_times {P x:Int} {zero done:List Int} (hz:∀ z,evI zero z % P = prodAt z done * (-1) ^ done.length % P) (z:Int):evI (timesF P zero [(0 - x+P) % P,1]) z % P = prodAt z (done++[x]) * (-1) ^ (done++[x]).length % P:=by
 rw [timesF_ev]
 have e1:evI [(0 - x+P) % P,1] z % P = ((x - z) * (-1)) % P:=by
  show ((0 - x+P) % P+z * (1+z * 0)) % P = _
  rw [Int.emod_add_emod]
  have:0 - x+P+z * (1+z * 0) = (x - z) * (-1)+P:=by
   rw [Int.mul_zero,Int.add_zero,Int.mul_one];omega
  rw [this,Int.add_emod,Int.emod_self,Int.add_zero,Int.emod_emod]
 rw [mul_mod_congr (hz z) e1 (P:=P)]
 congr 1
 have e2:∀ (l:List Int),prodAt z (l++[x]) = prodAt z l * (x - z):=by
  intro l
  induction l with
  | nil=>simp [prodAt]
  | cons w l ih=>simp only [List.cons_append,prodAt,ih,Int.mul_assoc]
 rw [e2,List.length_append,List.length_singleton,Int.pow_succ]
 rw [Int.mul_assoc,Int.mul_assoc,Int.mul_left_comm (x - z)]
set_option maxRecDepth 10000 in
set_option maxHeartbeats 1000000 in
theorem k148 (P g:Int) (hp:PrimeI P) (hP:3≤P∧P < 2 ^ 31) (X Y:List Int) (hl:X.length = Y.length) (hX:X.length≤200) (hrX:InF P X) (hrY:InF P Y) (hn:X.Nodup):PureC Tryz.prog 148 [fieldV P g,slI X,slI Y] (fun r=>r = slI (newtF P X Y [] [1])∨X = []∧r = .nils):=by
 have m1:=mt1
 have m2:=mt2
 have m3:=mt3
 have m4:=mt4
 refine pureC_of_wp .x mixed ok148 rfl ?_
 unfold c148
 dsimp only [argE,fieldV,fldC]
 refine W.run ?_
 refine W.lp (fun y:Nat × List Int × List Int=>[(0,fieldV P g),(2,slI Y),(7,match y.1 with | 0=>V.nils | _+1=>slI y.2.1),(8,match y.1 with | 0=>V.ref 16 0 0 1 | _+1=>slI y.2.2),(13,slI X),(14,.int .i64 (X.length:Int)),(15,.int .i64 (y.1:Int))]) (fun y=>match y.1 with | 0=>Hp.put (fun _=>none) 16 { cells:=[.int .i64 1],sz:=1 } | _+1=>fun _=>none)
  (fun y=>y.1≤X.length∧(y.1 = 0→y.2.1 = []∧y.2.2 = [1])∧InF P y.2.1∧InF P y.2.2∧y.2.1.length≤y.1∧y.2.2.length≤y.1+1∧(∀ z,evI y.2.2 z % P = prodAt z (X.take y.1) * (-1) ^ (X.take y.1).length % P)∧newtF P (X.drop y.1) (Y.drop y.1) y.2.1 y.2.2 = newtF P X Y [] [1]) (fun y=>X.length - y.1) (0,[],[1]) rfl (HS.refl _) ?_ ?_
 ·refine ⟨by dsimp only; omega, fun _ => ⟨rfl, rfl⟩, InF.nil, InF.cons (by omega) InF.nil, by simp, by simp, fun z => ?_, by rw [List.drop_zero, List.drop_zero]⟩
  simp [evI,prodAt]
 rintro ⟨i,out,zero⟩ nx ⟨hi,h00,ho,hz,l1,l2,h2,h3⟩ hnx
 dsimp only at hi h00 ho hz l1 l2 h2 h3
 by_cases hlt:i < X.length
 ·have hlt2 : i < Y.length := by omega
  rw [newtF_drop hlt hlt2] at h3
  have hx:=hrX X[i] (List.getElem_mem hlt)
  have hy:=hrY Y[i] (List.getElem_mem hlt2)
  have hnew:¬ P ∣ valM P X[i] zero:=zero_new hp h2 fun w hw hdv=>by
   have hwX:=List.mem_of_mem_take hw
   have e:=emod_of_dvd_sub hdv
   have:=hrX w hwX
   rw [Int.emod_eq_of_lt this.1 this.2,Int.emod_eq_of_lt hx.1 hx.2] at e
   have hn2:=List.nodup_append.1 (by rw [List.take_append_drop];exact hn:(X.take i++X.drop i).Nodup)
   exact hn2.2.2 w hw X[i] (by rw [List.drop_eq_getElem_cons hlt];exact List.mem_cons_self) e
  have hz0:zero.length≠0:=fun h=>hnew (by rw [List.length_eq_zero_iff.1 h];exact ⟨0,by simp [valM]⟩)
  have hx':=zero_times (x:=X[i]) h2
  rw [← List.take_succ_eq_append_getElem hlt] at hx'
  have r1:=valM_rng (P:=P) (x:=X[i]) (by omega) out
  have r2:=valM_rng (P:=P) (x:=X[i]) (by omega) zero
  obtain ⟨v1,hv1⟩:∃ v,v = valM P X[i] out:=⟨_,rfl⟩
  obtain ⟨v2,hv2⟩:∃ v,v = valM P X[i] zero:=⟨_,rfl⟩
  have r3:0≤(Y[i] - v1+P) % P∧(Y[i] - v1+P) % P < P:=emod_rng (by omega)
  have r4:0≤invF P v2∧invF P v2 < P:=emod_rng (by omega)
  obtain ⟨c,hc⟩:∃ c,c = (Y[i] - v1+P) % P * invF P v2 % P:=⟨_,rfl⟩
  have r5:0≤c∧c < P:=hc ▸ emod_rng (by omega)
  have r6:0≤(0 - X[i]+P) % P∧(0 - X[i]+P) % P < P:=emod_rng (by omega)
  have h3':newtF P (X.drop (i+1)) (Y.drop (i+1)) (plusF P out c zero) (timesF P zero [(0 - X[i]+P) % P,1]) = newtF P X Y [] [1]:=by rw [← h3,hc,hv1,hv2];rfl
  have c2:=k269 P Y[i] v1 (by omega) hy (hv1 ▸ r1)
  have c4:=k270 P v2 (by omega) (hv2 ▸ r2)
  have c5:=k271 P ((Y[i] - v1+P) % P) (invF P v2) (by omega) r3 r4
  rw [← hc] at c5
  have cMISSING7:=k269 P 0 X[i] (by omega) (by omega) hx
  have cMISSING8:=k191 P g hP zero [(0 - X[i]+P) % P,1] (by omega) (by simp) hz (InF.cons r6 (InF.cons (by omega) InF.nil)) hz0 (by simp)
  have hin1:InF P (plusF P out c zero):=plusF_in (by omega) ho
  have hin2:InF P (timesF P zero [(0 - X[i]+P) % P,1]):=timesF_in (by omega)
  have hl1:(plusF P out c zero).length≤i+1:=by have:=plusF_len (P:=P) (c:=c) out zero;omega
  have hl2:(timesF P zero [(0 - X[i]+P) % P,1]).length≤i+1+1:=by have:=timesF_len (P:=P) zero [(0 - X[i]+P) % P,1];simp only [List.length_cons,List.length_nil] at this;omega
  rcases i with _ | i
  ·obtain ⟨rfl,rfl⟩:=h00 rfl
   have c1:=k178 P X[0] g hP [] (by simp) ho hx .nils (.inr ⟨rfl,rfl⟩)
   have c3:PureC Tryz.prog 178 [fieldV P g,.sl [.int .i64 1] 1,.int .i64 X[0]] (fun r=>r = .int .i64 (valM P X[0] [1])):=k178 P X[0] g hP [1] (by simp) hz hx (slI [1]) (.inl rfl)
   have c6:PureC Tryz.prog 190 [fieldV P g,.nils,.int .i64 c,.sl [.int .i64 1] 1] (fun r=>r = slI (plusF P [] c [1])):=k190 P c g hP [] [1] (by simp) (by simp) ho hz r5 .nils (.inr ⟨rfl,rfl⟩)
   have cMISSING8:PureC Tryz.prog 191 [fieldV P g,.sl [.int .i64 1] 1,.sl [.int .i64 (((0:Int) - X[0]+P) % P),.int .i64 1] 2] (fun r=>r = slI (timesF P [1] [((0:Int) - X[0]+P) % P,1])):=cMISSING8
   rw [← hv1] at c1
   rw [← hv2] at c3
   dsimp only [fieldV,fldC] at c1 c3 c6 cMISSING8 ⊢
   refine W.run ?_
   refine W.kl (1,plusF P [] c [1],timesF P [1] [((0:Int) - X[0]+P) % P,1]) rfl (HS.emp _) (by omega) ⟨by dsimp only;omega,fun h=>absurd h (by simp),hin1,hin2,hl1,hl2,hx',h3'⟩ (by dsimp only;omega)
  ·have c1 := k178 P X[i + 1] g hP out (by omega) ho hx (slI out) (.inl rfl)
   have c3:=k178 P X[i+1] g hP zero (by omega) hz hx (slI zero) (.inl rfl)
   have cMISSING8:PureC Tryz.prog 191 [fieldV P g,slI zero,.sl [.int .i64 (((0:Int) - X[i+1]+P) % P),.int .i64 1] 2] (fun r=>r = slI (timesF P zero [((0:Int) - X[i+1]+P) % P,1])):=cMISSING8
   have c6:=k190 P c g hP out zero (by omega) (by omega) ho hz r5 (slI out) (.inl rfl)
   rw [← hv1] at c1
   rw [← hv2] at c3
   dsimp only [fieldV,fldC] at c1 c3 c6 cMISSING8 ⊢
   refine W.run ?_
   refine W.kl (i+1+1,plusF P out c zero,timesF P zero [((0:Int) - X[i+1]+P) % P,1]) rfl (HS.emp _) (by omega) ⟨by dsimp only;omega,fun h=>absurd h (by simp),hin1,hin2,hl1,hl2,hx',h3'⟩ (by dsimp only;omega)
 ·have hi' : i = X.length := by omega
  rw [hi',List.drop_length] at h3
  have h4:out = newtF P X Y [] [1]:=h3
  rcases i with _ | i
  ·dsimp only [fieldV,fldC]
   refine W.run ?_
   exact .inr ⟨List.length_eq_zero_iff.1 hi'.symm,rfl⟩
  ·dsimp only [fieldV,fldC]
   refine W.run ?_
   rw [← h4];exact .inl rfl
def IsL (pv:V) (A:List Int):Prop:=pv = slI A∨(pv = .nils∧A = [])
theorem IsL.atom {pv:V} {A:List Int} (h:IsL pv A):pv.atom = true:=by rcases h with rfl | ⟨rfl,_⟩ <;> rfl
structure Ln where
 hall:Int
 kind:Int
 other:Int
 nums:List Int
def isHallB (H h:Int):Bool:=decide (1≤h∧h≤H)
def cntB (H:Int) (x:Ln) (kind n:Int) (another:Bool):Bool :=
 decide (x.kind = kind) && isHallB H x.hall && decide ((x.nums.length:Int) = n) && (!another || (isHallB H x.other && decide (x.other≠x.hall)))
abbrev lnC (x:Ln) (nv:V):List V:=[.int .i64 x.hall,.int .i64 x.kind,.int .i64 x.other,nv]
theorem k65 (R P G H B K h:Int):PureC Tryz.prog 65 [cfgV R P G H B K,.int .i64 h] (fun r=>r = .bool (isHallB H h)):=by
 unfold isHallB
 by_cases h1:1≤h
 ·refine pureC_of_wp .x mixed ok65 rfl ?_
  unfold c65
  dsimp only [argE]
  refine W.run ?_
  simp [h1]
 ·refine pureC_of_wp .x mixed ok65 rfl ?_
  unfold c65
  dsimp only [argE]
  refine W.run ?_
  simp [h1]
set_option maxRecDepth 10000 in
set_option maxHeartbeats 1000000 in
theorem k114 (R P G H B K kind n:Int) (x:Ln) (hx:x.nums.length < 2 ^ 40) (another:Bool) (nv:V) (hnv:IsL nv x.nums):PureC Tryz.prog 114 [cfgV R P G H B K,.agg (lnC x nv),.int .i64 kind,.int .i64 n,.bool another] (fun r=>r = .bool (cntB H x kind n another)):=by
 have c1:=k65 R P G H B K x.hall
 have c2:=k65 R P G H B K x.other
 unfold cntB
 obtain ⟨b1,hb1⟩:∃ b,b = isHallB H x.hall:=⟨_,rfl⟩
 obtain ⟨b2,hb2⟩:∃ b,b = isHallB H x.other:=⟨_,rfl⟩
 rw [← hb1] at c1 ⊢
 rw [← hb2] at c2 ⊢
 clear hb1 hb2
 have hat:=hnv.atom
 have hlen:∀ (c:IOp),True:=fun _=>trivial
 rcases hnv with rfl | ⟨rfl,hn0⟩
 ·refine pureC_of_wp .x mixed ok114 rfl ?_
  unfold c114
  dsimp only [argE,lnC]
  by_cases h1:x.kind = kind
  ·cases b1
   ·refine W.run ?_;simp
   ·by_cases h2:(x.nums.length:Int) = n
    ·cases another
     ·refine W.run ?_;simp [h1,h2]
     ·cases b2
      ·refine W.run ?_;simp
      ·refine W.run ?_;simp [h1,h2]
    ·refine W.run ?_;simp [h2]
  ·refine W.run ?_;simp [h1]
 ·rw [hn0]
  refine pureC_of_wp .x mixed ok114 rfl ?_
  unfold c114
  dsimp only [argE,lnC]
  by_cases h1:x.kind = kind
  ·cases b1
   ·refine W.run ?_;simp
   ·by_cases h2:(0:Int) = n
    ·cases another
     ·refine W.run ?_;simp [h1,← h2]
     ·cases b2
      ·refine W.run ?_;simp
      ·refine W.run ?_;simp [h1,← h2]
    ·refine W.run ?_;simp [h2]
  ·refine W.run ?_;simp [h1]
def lnsC:List (Ln × V)→List V
 | []=>[]
 | p::l=>lnC p.1 p.2++lnsC l
theorem lnsC_len:∀ l,(lnsC l).length = 4 * l.length
 | []=>rfl
 | p::l=>by simp [lnsC,lnsC_len l];omega
theorem lnsC_get:∀ {l:List (Ln × V)} {i:Nat} (h:i < l.length),((lnsC l).drop (i * 4)).take 4 = lnC l[i].1 l[i].2
 | p::l,0,h=>by simp [lnsC]
 | p::l,i+1,h=>by
  have:=lnsC_get (l:=l) (i:=i) (by simpa using h)
  rw [show (i+1) * 4 = 4+i * 4 by omega,← List.drop_drop]
  simpa [lnsC] using this
abbrev lnsV (l:List (Ln × V)):V:=.sl (lnsC l) l.length
theorem k108 (x:Ln) (hx:x.nums.length < 2 ^ 40) (nv:V) (hnv:IsL nv x.nums):PureC Tryz.prog 108 [.agg (lnC x nv)] (fun r=>r = .bool (decide (64 < x.nums.length))):=by
 rcases hnv with rfl | ⟨rfl,hn0⟩
 ·refine pureC_of_wp .x mixed ok108 rfl ?_
  unfold c108
  dsimp only [argE,lnC]
  refine W.run ?_
  simp;omega
 ·rw [hn0]
  refine pureC_of_wp .x mixed ok108 rfl ?_
  unfold c108
  dsimp only [argE,lnC]
  refine W.run ?_
  simp
def idxL (q:Ln→Bool):List (Ln × V)→Int→Int
 | [],_=>-1
 | p::l,i=>if q p.1 then i else idxL q l (i+1)
set_option maxRecDepth 10000 in
set_option maxHeartbeats 1000000 in
theorem k161 (L:List (Ln × V)) (hlen:L.length < 2 ^ 40) (hv:∀ p∈L,IsL p.2 p.1.nums) (g:FuncId) (q:Ln→Bool) (hg:∀ p∈L,PureC Tryz.prog g [.agg (lnC p.1 p.2)] (fun r=>r = .bool (q p.1))) :
  PureC Tryz.prog 161 [lnsV L,.clo (.func g) [] []] (fun r=>r = .int .i64 (idxL q L 0)):=by
 refine pureC_of_wp .x mixed ok161 rfl ?_
 unfold c161
 dsimp only [argE]
 refine W.run ?_
 refine W.lp (fun i:Nat=>[(0,lnsV L),(1,.clo (.func g) [] []),(7,.int .i64 (L.length:Int)),(8,.int .i64 (i:Int))]) (fun _ _=>none)
  (fun i=>i≤L.length∧idxL q L 0 = idxL q (L.drop i) i) (fun i=>L.length - i) 0 rfl (HS.refl _) ⟨by omega,rfl⟩ ?_
 rintro i nx ⟨h1,h2⟩ hnx
 have hll:=lnsC_len L
 by_cases hi:i < L.length
 ·have hgi:=lnsC_get hi
  have hgc:=hg L[i] (List.getElem_mem hi)
  have hvi:=hv L[i] (List.getElem_mem hi)
  rw [List.drop_eq_getElem_cons hi] at h2
  have h3:idxL q (L[i]::L.drop (i+1)) i = if q L[i].1 then (i:Int) else idxL q (L.drop (i+1)) (i+1):=rfl
  rw [h3] at h2
  clear hg hv h3
  generalize L[i] = p at *
  obtain ⟨x,nv⟩:=p
  dsimp only at hgi hgc hvi h2
  rcases hvi with rfl | ⟨rfl,_⟩
  all_goals
   cases hq:q x
   ·rw [hq] at h2 hgc
    refine W.run ?_
    rw [hgi]
    refine W.run ?_
    exact W.kl (i+1) rfl (HS.refl _) (by omega) ⟨by omega,by simpa using h2⟩ (by omega)
   ·rw [hq] at h2 hgc
    refine W.run ?_
    rw [hgi]
    refine W.run ?_
    rw [h2];rfl
 ·have : i = L.length := by omega
  subst this
  refine W.run ?_
  rw [h2,List.drop_length];rfl
theorem idxL_any {q:Ln→Bool}:∀ (l:List (Ln × V)) (i:Int),0≤i→(0≤idxL q l i↔(l.any fun p=>q p.1) = true)
 | [],i,_=>by simp [idxL]
 | p::l,i,hi=>by
  have ih:=idxL_any (q:=q) l (i+1) (by omega)
  cases h:q p.1
  ·simp only [idxL,h,List.any_cons,Bool.false_or];simpa using ih
  ·simp [idxL,h,hi]
theorem k107 (L:List (Ln × V)) (hlen:L.length < 2 ^ 40) (hv:∀ p∈L,IsL p.2 p.1.nums) (g:FuncId) (q:Ln→Bool) (hg:∀ p∈L,PureC Tryz.prog g [.agg (lnC p.1 p.2)] (fun r=>r = .bool (q p.1))) :
  PureC Tryz.prog 107 [lnsV L,.clo (.func g) [] []] (fun r=>r = .bool (L.any fun p=>q p.1)):=by
 have c1:=k161 L hlen hv g q hg
 have hi:=idxL_any (q:=q) L 0 (by omega)
 clear hg
 refine pureC_of_wp .x mixed ok107 rfl ?_
 unfold c107
 dsimp only [argE]
 cases hq:L.any fun p=>q p.1
 ·have : ¬ 0 ≤ idxL q L 0 := fun h => by have := hi.1 h; rw [hq] at this; cases this
  clear hi
  refine W.run ?_
  rfl
 ·have:0≤idxL q L 0:=hi.2 hq
  clear hi
  refine W.run ?_
  rfl
abbrev brdV (l1 l2 l3 l4:List (Ln × V)):V:=.agg [lnsV l1,lnsV l2,lnsV l3,lnsV l4]
theorem k56 (l1 l2 l3 l4:List (Ln × V)):PureC Tryz.prog 56 [brdV l1 l2 l3 l4] (fun r=>r = brdV l1 l2 l3 l4):=by
 refine pureC_of_wp .x mixed ok56 rfl ?_
 unfold c56
 dsimp only [argE]
 refine W.run ?_
 rfl
def fitsL (most:Int) (l:List (Ln × V)):Bool:=decide ((l.length:Int)≤most) && !(l.any fun p=>decide (64 < p.1.nums.length))
abbrev LnsI (l:List (Ln × V)):Prop:=l.length < 2 ^ 40∧∀ p∈l,IsL p.2 p.1.nums∧p.1.nums.length < 2 ^ 40
theorem k107n {l:List (Ln × V)} (h:LnsI l):PureC Tryz.prog 107 [lnsV l,.clo (.func 108) [] []] (fun r=>r = .bool (l.any fun p=>decide (64 < p.1.nums.length))) :=
 k107 l h.1 (fun p hp=>(h.2 p hp).1) 108 (fun x=>decide (64 < x.nums.length)) fun p hp=>k108 p.1 (h.2 p hp).2 p.2 (h.2 p hp).1
def brdL (l1 l2 l3 l4:List (Ln × V)):Nat→List (Ln × V)
 | 0=>l1
 | 1=>l2
 | 2=>l3
 | _=>l4
set_option maxRecDepth 10000 in
set_option maxHeartbeats 2000000 in
theorem k51 {R P G H B K:Int} (hg:GroupI R P G) (hc:CfgI P H B K) (most:Int) (hm:0≤most∧most < 2 ^ 40) (l1 l2 l3 l4:List (Ln × V)) (h1:LnsI l1) (h2:LnsI l2) (h3:LnsI l3) (h4:LnsI l4) :
  PureC Tryz.prog 51 [cfgV R P G H B K,brdV l1 l2 l3 l4,.int .i64 most] (fun r=>r = .int .i64 (if fitsL most l1 && fitsL most l2 && fitsL most l3 && fitsL most l4 then 0 else 2)):=by
 have c1:=k36 hg hc
 have c2:=k56 l1 l2 l3 l4
 clear hg hc
 refine pureC_of_wp .x mixed ok51 rfl ?_
 unfold c51
 dsimp only [argE,cfgV]
 refine W.run ?_
 clear c1 c2
 obtain ⟨E,hE⟩:∃ E:Int,E = if fitsL most l1 && fitsL most l2 && fitsL most l3 && fitsL most l4 then 0 else 2:=⟨_,rfl⟩
 rw [← hE]
 refine W.lp (fun i:Nat=>[(2,.int .i64 most),(16,brdV l1 l2 l3 l4),(17,.int .i64 (i:Int))]) (fun _ _=>none) (fun i=>i≤4∧∀ j,j < i→fitsL most (brdL l1 l2 l3 l4 j) = true) (fun i=>4 - i) 0 rfl (HS.emp _) ⟨by omega,fun j hj=>by omega⟩ ?_
 rintro i nx ⟨hi,hf⟩ hnx
 obtain rfl | rfl | rfl | rfl | rfl:i = 0∨i = 1∨i = 2∨i = 3∨i = 4:=by omega
 ·have hk:=k107n h1
  have hlt:=h1.1
  have no:fitsL most l1 = false→E = 2:=fun h=>by rw [hE,h];simp
  have next:fitsL most l1 = true→∀ j,j < 1→fitsL most (brdL l1 l2 l3 l4 j) = true:=fun h j hj=>by
   by_cases hj':j = 0
   ·subst hj';exact h
   ·exact hf j (by omega)
  clear hf hE h1 h2 h3 h4
  by_cases hle:most < l1.length
  ·obtain rfl := no (by unfold fitsL; rw [decide_eq_false (by omega)]; rfl)
   clear no next
   refine W.run ?_
   rfl
  ·cases hany:l1.any fun p=>decide (64 < p.1.nums.length)
   ·have hn := next (by unfold fitsL; rw [hany, decide_eq_true (by omega)]; rfl)
    rw [hany] at hk
    clear no next
    refine W.run ?_
    exact W.kl 1 rfl (HS.refl _) (by omega) ⟨by omega,hn⟩ (by omega)
   ·obtain rfl := no (by unfold fitsL; rw [hany]; simp)
    rw [hany] at hk
    clear no next
    refine W.run ?_
    rfl
 ·have hk:=k107n h2
  have hlt:=h2.1
  have no:fitsL most l2 = false→E = 2:=fun h=>by rw [hE,h];simp
  have next:fitsL most l2 = true→∀ j,j < 2→fitsL most (brdL l1 l2 l3 l4 j) = true:=fun h j hj=>by
   by_cases hj':j = 1
   ·subst hj';exact h
   ·exact hf j (by omega)
  clear hf hE h1 h2 h3 h4
  by_cases hle:most < l2.length
  ·obtain rfl := no (by unfold fitsL; rw [decide_eq_false (by omega)]; rfl)
   clear no next
   refine W.run ?_
   rfl
  ·cases hany:l2.any fun p=>decide (64 < p.1.nums.length)
   ·have hn := next (by unfold fitsL; rw [hany, decide_eq_true (by omega)]; rfl)
    rw [hany] at hk
    clear no next
    refine W.run ?_
    exact W.kl 2 rfl (HS.refl _) (by omega) ⟨by omega,hn⟩ (by omega)
   ·obtain rfl := no (by unfold fitsL; rw [hany]; simp)
    rw [hany] at hk
    clear no next
    refine W.run ?_
    rfl
 ·have hk:=k107n h3
  have hlt:=h3.1
  have no:fitsL most l3 = false→E = 2:=fun h=>by rw [hE,h];simp
  have next:fitsL most l3 = true→∀ j,j < 3→fitsL most (brdL l1 l2 l3 l4 j) = true:=fun h j hj=>by
   by_cases hj':j = 2
   ·subst hj';exact h
   ·exact hf j (by omega)
  clear hf hE h1 h2 h3 h4
  by_cases hle:most < l3.length
  ·obtain rfl := no (by unfold fitsL; rw [decide_eq_false (by omega)]; rfl)
   clear no next
   refine W.run ?_
   rfl
  ·cases hany:l3.any fun p=>decide (64 < p.1.nums.length)
   ·have hn := next (by unfold fitsL; rw [hany, decide_eq_true (by omega)]; rfl)
    rw [hany] at hk
    clear no next
    refine W.run ?_
    exact W.kl 3 rfl (HS.refl _) (by omega) ⟨by omega,hn⟩ (by omega)
   ·obtain rfl := no (by unfold fitsL; rw [hany]; simp)
    rw [hany] at hk
    clear no next
    refine W.run ?_
    rfl
 ·have hk:=k107n h4
  have hlt:=h4.1
  have no:fitsL most l4 = false→E = 2:=fun h=>by rw [hE,h];simp
  have next:fitsL most l4 = true→∀ j,j < 4→fitsL most (brdL l1 l2 l3 l4 j) = true:=fun h j hj=>by
   by_cases hj':j = 3
   ·subst hj';exact h
   ·exact hf j (by omega)
  clear hf hE h1 h2 h3 h4
  by_cases hle:most < l4.length
  ·obtain rfl := no (by unfold fitsL; rw [decide_eq_false (by omega)]; rfl)
   clear no next
   refine W.run ?_
   rfl
  ·cases hany:l4.any fun p=>decide (64 < p.1.nums.length)
   ·have hn := next (by unfold fitsL; rw [hany, decide_eq_true (by omega)]; rfl)
    rw [hany] at hk
    clear no next
    refine W.run ?_
    exact W.kl 4 rfl (HS.refl _) (by omega) ⟨by omega,hn⟩ (by omega)
   ·obtain rfl := no (by unfold fitsL; rw [hany]; simp)
    rw [hany] at hk
    clear no next
    refine W.run ?_
    rfl
 ·have e:E = 0:=by
   have f1:=hf 0 (by omega)
   have f2:=hf 1 (by omega)
   have f3:=hf 2 (by omega)
   have f4:=hf 3 (by omega)
   simp only [brdL] at f1 f2 f3 f4
   rw [hE,f1,f2,f3,f4];rfl
  subst e
  clear hf hE
  refine W.run ?_
  rfl
end Go.Dp
