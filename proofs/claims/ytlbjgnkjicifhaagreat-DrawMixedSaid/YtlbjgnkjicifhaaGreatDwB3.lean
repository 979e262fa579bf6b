import Derived.Test.YtlbjgnkjicifhaaGreatDwE3
import Derived.Test.YtlbjgnkjicifhaaGreatDwG1
namespace Go.Dp
open Go.RowKit Go.Proofs
attribute [local irreducible] wp wpOps wpOp1 CallW CallT kSeq kBlk kLoop kReg retP retR kAsg kRound kRf kCut kItr
set_option linter.unusedVariables false
set_option linter.unusedSimpArgs false
theorem zeros_map (n:Nat):zerosV [V.int .i64 0] n = (List.replicate n (0:Int)).map (V.int .i64):=by
 induction n with
 | zero=>rfl
 | succ n ih=>rw [zerosV,ih];rfl
abbrev slI (A:List Int):V:=.sl (A.map (V.int .i64)) A.length
set_option maxRecDepth 10000 in
theorem k208 (A:List Int) (hA:A.length < 2 ^ 40):PureC Tryz.prog 208 [slI A] (fun r=>r = slI (trimI A)):=by
 refine pureC_of_wp .x mixed ok208 rfl ?_
 unfold c208
 dsimp only [argE]
 refine W.run ?_
 refine W.lp (fun n:Nat=>[(0,slI A),(3,.int .i64 (n:Int))]) (fun _ _=>none)
  (fun n=>n≤A.length∧∀ i,n≤i→(h:i < A.length)→A[i] = 0) (fun n=>n) A.length rfl (HS.refl _) ⟨by omega,fun i h1 h2=>by omega⟩ ?_
 rintro n nx ⟨hn,hz⟩ hnx
 have fin:(0 < n→(h:n - 1 < A.length)→A[n - 1]≠0)→trimI A = A.take n∧(trimI A).length = n:=fun h1=>by
  have:=trimI_take hn hz h1
  exact ⟨this,by rw [this];simp;omega⟩
 by_cases h0:0 < n
 ·have hidx : ((n : Int) - 1).toNat = n - 1 := by omega
  have hl:((n:Int) - 1).toNat < A.length:=by omega
  by_cases he:A[((n:Int) - 1).toNat] = 0
  ·refine W.run ?_
   refine W.kl (n - 1) (by rw [show ((n:Int) - 1) = ((n - 1:Nat):Int) by omega];rfl) (HS.refl _) (by omega) ⟨by omega,fun i h1 h2=>?_⟩ (by omega)
   by_cases hi:i = n - 1
   ·subst hi
    simp only [hidx] at he;exact he
   ·exact hz i (by omega) h2
  ·obtain ⟨f1, f2⟩ := fin (fun _ _ => by simp only [hidx] at he; exact he)
   refine W.run ?_
   show _ = V.sl ((trimI A).map (V.int .i64)) (trimI A).length
   rw [f2,f1]
 ·obtain ⟨f1,f2⟩:=fin (fun h=>absurd h h0)
  have:n = 0:=by omega
  subst this
  refine W.run ?_
  show _ = V.sl ((trimI A).map (V.int .i64)) (trimI A).length
  rw [f2,f1];rfl
set_option maxRecDepth 10000 in
theorem k204 (P x : Int) (hP : 3 ≤ P ∧ P < 2 ^ 31) (A : List Int) (hA : A.length < 2 ^ 40) (hr : InF P A) (hx : 0 ≤ x ∧ x < P) (pv : V) (hpv : pv = slI A ∨ (pv = .nils ∧ A = [])) : PureC Tryz.prog 204 [pv, .int .i64 x, .int .i64 0, .clo (.method "dauber/field.sum") [modV P] [], .clo (.method "dauber/field.product") [modV P] []] (fun r => r = .int .i64 (valM P x A)) := by
 have m1:=mt1
 have m2:=mt2
 rcases hpv with rfl | ⟨rfl,rfl⟩
 ·refine pureC_of_wp .x mixed ok204 rfl ?_
  unfold c204
  dsimp only [argE]
  refine W.run ?_
  refine W.lp (fun y : Int × Int => [(0, slI A), (1, .int .i64 x), (3, .clo (.method "dauber/field.sum") [modV P] []), (4, .clo (.method "dauber/field.product") [modV P] []), (11, .int .i64 y.2), (12, .int .i64 y.1)]) (fun _ _ => none)
   (fun y=>(-1≤y.1∧y.1 < A.length)∧(0≤y.2∧y.2 < P)∧y.2 = valM P x (A.drop (y.1+1).toNat)) (fun y=>(y.1+1).toNat) ((A.length:Int) - 1,0) rfl (HS.refl _) ?_ ?_
  ·refine ⟨by dsimp only; omega, by dsimp only; omega, ?_⟩
   dsimp only
   rw [show ((A.length:Int) - 1+1).toNat = A.length by omega,List.drop_length];rfl
  rintro ⟨i,out⟩ nx ⟨⟨h1,h2⟩,h3,h4⟩ hnx
  dsimp only at h1 h2 h3 h4 ⊢
  by_cases hi:0≤i
  ·have hlt : i.toNat < A.length := by omega
   have ha:=hr A[i.toNat] (List.getElem_mem hlt)
   have c1:=k271 P out x (by omega) h3 hx
   have c2:=k272 P (out * x % P) A[i.toNat] (by omega) (emod_rng (by omega)) ha
   refine W.run ?_
   refine W.kl (i - 1,_) rfl (HS.refl _) (by omega) ⟨by dsimp only;omega,emod_rng (by omega),?_⟩ (by dsimp only;omega)
   dsimp only
   rw [show (i - 1+1).toNat = i.toNat by omega,List.drop_eq_getElem_cons hlt,h4,show (i+1).toNat = i.toNat+1 by omega]
   show _ = (valM P x (A.drop (i.toNat+1)) * (x % P) % P+A[i.toNat]) % P
   rw [Int.emod_eq_of_lt hx.1 hx.2]
  ·rw [show (i + 1).toNat = 0 by omega] at h4
   refine W.run ?_
   rw [h4];rfl
 ·refine pureC_of_wp .x mixed ok204 rfl ?_
  unfold c204
  dsimp only [argE]
  refine W.run ?_
  refine W.lp (fun _ : Unit => [(0, .nils), (1, .int .i64 x), (3, .clo (.method "dauber/field.sum") [modV P] []), (4, .clo (.method "dauber/field.product") [modV P] []), (11, .int .i64 0), (12, .int .i64 (-1))]) (fun _ _ => none) (fun _ => True) (fun _ => 0) () rfl (HS.refl _) trivial ?_
  rintro _ nx _ hnx
  refine W.run ?_
  rfl
theorem k178 (P x g:Int) (hP:3≤P∧P < 2 ^ 31) (A:List Int) (hA:A.length < 2 ^ 40) (hr:InF P A) (hx:0≤x∧x < P) (pv:V) (hpv:pv = slI A∨(pv = .nils∧A = [])):PureC Tryz.prog 178 [fieldV P g,pv,.int .i64 x] (fun r=>r = .int .i64 (valM P x A)):=by
 have c1:=k204 P x hP A hA hr hx pv hpv
 have hat:pv.atom = true:=by rcases hpv with rfl | ⟨rfl,_⟩ <;> rfl
 refine pureC_of_wp .x mixed ok178 rfl ?_
 unfold c178
 dsimp only [argE,fieldV,fldC]
 refine W.run ?_
 rfl
set_option maxRecDepth 10000 in
set_option maxHeartbeats 1000000 in
theorem k190 (P c g:Int) (hP:3≤P∧P < 2 ^ 31) (A B:List Int) (hA:A.length < 2 ^ 30) (hB:B.length < 2 ^ 30) (hrA:InF P A) (hrB:InF P B) (hc:0≤c∧c < P) (pv:V) (hpv:pv = slI A∨(pv = .nils∧A = [])):PureC Tryz.prog 190 [fieldV P g,pv,.int .i64 c,slI B] (fun r=>r = slI (plusF P A c B)):=by
 have m1:=mt1
 have m2:=mt2
 obtain ⟨n,hn,hn1,hn2,hn3⟩:∃ n:Nat,(if (A.length:Int) < (B.length:Int) then (B.length:Int) else (A.length:Int)) = (n:Int)∧n = max A.length B.length∧A.length≤n∧B.length≤n:=⟨max A.length B.length,by omega,rfl,by omega,by omega⟩
 refine pureC_of_wp .x mixed ok190 rfl ?_
 unfold c190
 dsimp only [argE,fieldV,fldC]
 have hn':(if (B.length:Int) > (A.length:Int) then (B.length:Int) else (A.length:Int)).toNat = n:=by omega
 obtain ⟨pad,hpad⟩:∃ pad,pad = A++List.replicate (n - A.length) 0:=⟨_,rfl⟩
 have hpl:pad.length = n:=by rw [hpad];simp;omega
 have hpr:InF P pad:=fun a ha=>by
  rw [hpad] at ha
  rcases List.mem_append.1 ha with h1 | h1
  ·exact hrA a h1
  ·exact InF.rep (by omega) _ a h1
 have hres:plusF P A c B = trimI (addF P c pad B):=by unfold plusF;rw [← hn1,← hpad]
 rw [hres]
 have hst:∀ i,i≤B.length→(addF P c pad (B.take i)).length = n∧InF P (addF P c pad (B.take i)):=fun i hi=>⟨by rw [addF_len,hpl];simp;omega,addF_in (by omega) hpr⟩
 rcases hpv with rfl | ⟨rfl,hA0⟩
 case' inl =>
  refine W.run ?_
  rw [hn',zeros_map]
  refine W.run ?_
  have e1:List.map (V.int .i64) A++List.map (V.int .i64) (List.drop (min A.length n) (List.replicate n 0)) = pad.map (V.int .i64):=by
   rw [← List.map_append,hpad,List.drop_replicate,show min A.length n = A.length by omega]
  rw [e1]
 case' inr =>
  have hn'':(if (B.length:Int) > ((0:Nat):Int) then (B.length:Int) else ((0:Nat):Int)).toNat = n:=by subst hA0;exact hn'
  refine W.run ?_
  rw [hn'',zeros_map]
  refine W.run ?_
  have e1:List.map (V.int .i64) (List.drop (min 0 n) (List.replicate n 0)) = pad.map (V.int .i64):=by
   rw [hpad,hA0,List.drop_replicate];simp
  rw [e1]
 all_goals
  refine W.lp (fun i:Nat=>[(0,fieldV P g),(2,.int .i64 c),(9,.ref 48 0 0 n),(21,slI B),(22,.int .i64 (B.length:Int)),(23,.int .i64 (i:Int))]) (fun i=>Hp.put (fun _=>none) 48 { cells:=(addF P c pad (B.take i)).map (V.int .i64),sz:=1 })
   (fun i=>i≤B.length) (fun i=>B.length - i) 0 rfl (HS.put (by cases pad <;> rfl) (HS.refl _)) (by omega) ?_
  rintro i nx hi hnx
  obtain ⟨l1,r1⟩:=hst i hi
  dsimp only [fieldV,fldC]
  by_cases hlt:i < B.length
  ·have hb:=hrB B[i] (List.getElem_mem hlt)
   have hs:=addF_step (P:=P) (c:=c) (p:=pad) hlt (by omega)
   obtain ⟨C,hC⟩:∃ C,addF P c pad (B.take i) = C:=⟨_,rfl⟩
   rw [hC] at l1 r1 hs ⊢
   rw [List.getD_eq_getElem?_getD,List.getElem?_eq_getElem (by omega),Option.getD_some] at hs
   have hCi:=r1 (C[i]'(by omega)) (List.getElem_mem _)
   have c1:=k271 P c B[i] (by omega) hc hb
   have c2:=k272 P (C[i]'(by omega)) (c * B[i] % P) (by omega) hCi (emod_rng (by omega))
   refine W.run ?_
   refine W.kl (i+1) rfl (HS.put ?_ (HS.refl _)) (by omega) (by omega) (by omega)
   rw [hs,List.set_eq_take_append_cons_drop,if_pos (by omega)];simp
  ·have : i = B.length := by omega
   subst this
   rw [List.take_length] at l1 r1 ⊢
   have c3:=k208 (addF P c pad B) (by omega)
   have c4:PureC Tryz.prog 208 [.sl ((addF P c pad B).map (V.int .i64)) n] (fun r=>r = slI (trimI (addF P c pad B))):=by rw [← l1];exact c3
   refine W.run ?_
   rfl
theorem rowM_drop {P a:Int} {i j:Nat} {q C:List Int} (h:j < q.length):rowM P a i (q.drop j) j C = rowM P a i (q.drop (j+1)) (j+1) (C.set (i+j) ((C.getD (i+j) 0+a * q[j] % P) % P)):=by
 rw [List.drop_eq_getElem_cons h];rfl
theorem prodM_drop {P:Int} {i:Nat} {p q C:List Int} (h:i < p.length):prodM P q (p.drop i) i C = prodM P q (p.drop (i+1)) (i+1) (rowM P p[i] i q 0 C):=by
 rw [List.drop_eq_getElem_cons h];rfl
set_option maxRecDepth 10000 in
set_option maxHeartbeats 1000000 in
theorem k191 (P g:Int) (hP:3≤P∧P < 2 ^ 31) (A B:List Int) (hA:A.length < 2 ^ 30) (hB:B.length < 2 ^ 30) (hrA:InF P A) (hrB:InF P B) (h0:A.length≠0) (h1:B.length≠0):PureC Tryz.prog 191 [fieldV P g,slI A,slI B] (fun r=>r = slI (timesF P A B)):=by
 have m1:=mt1
 have m2:=mt2
 refine pureC_of_wp .x mixed ok191 rfl ?_
 unfold c191
 dsimp only [argE,fieldV,fldC]
 have e:timesF P A B = trimI (convF P A B):=by unfold timesF;rw [if_neg (by omega)]
 rw [e]
 obtain ⟨n,hnn⟩:∃ n,n = A.length+B.length - 1:=⟨_,rfl⟩
 have hcl:(convF P A B).length = n:=by rw [convF_len,hnn]
 have hn:((A.length:Int)+(B.length:Int) - 1).toNat = n:=by omega
 refine W.run ?_
 rw [hn,zeros_map]
 refine W.run ?_
 refine W.lp (fun y:Nat × List Int=>[(0,fieldV P g),(2,slI B),(7,.ref 120 0 0 n),(27,slI A),(28,.int .i64 (A.length:Int)),(29,.int .i64 (y.1:Int))]) (fun y=>Hp.put (fun _=>none) 120 { cells:=y.2.map (V.int .i64),sz:=1 })
   (fun y=>y.1≤A.length∧y.2.length = n∧InF P y.2∧prodM P B (A.drop y.1) y.1 y.2 = convF P A B) (fun y=>A.length - y.1) (0,List.replicate n 0) rfl (HS.refl _) ⟨by dsimp only;omega,by simp,InF.rep (by omega) n,by rw [List.drop_zero,hnn];rfl⟩ ?_
 rintro ⟨i,C⟩ nx ⟨hi,hl,hC,hpr⟩ hnx
 dsimp only [fieldV,fldC] at hi hl hC hpr ⊢
 by_cases hlt:i < A.length
 ·rw [prodM_drop hlt] at hpr
  refine W.run ?_
  refine W.lp (fun y:Nat × List Int=>[(0,fieldV P g),(2,slI B),(7,.ref 120 0 0 n),(8,.int .i64 (i:Int)),(9,.int .i64 A[i]),(27,slI A),(28,.int .i64 (A.length:Int)),(29,.int .i64 (i:Int)),(34,slI B),(35,.int .i64 (B.length:Int)),(36,.int .i64 (y.1:Int))]) (fun y=>Hp.put (fun _=>none) 120 { cells:=y.2.map (V.int .i64),sz:=1 })
   (fun y=>y.1≤B.length∧y.2.length = n∧InF P y.2∧rowM P A[i] i (B.drop y.1) y.1 y.2 = rowM P A[i] i B 0 C) (fun y=>B.length - y.1) (0,C) rfl (HS.refl _) ⟨by dsimp only;omega,hl,hC,by rw [List.drop_zero]⟩ ?_
  rintro ⟨j,D⟩ nx1 ⟨hj,hl1,hD,hro⟩ hnx1
  dsimp only [fieldV,fldC] at hj hl1 hD hro ⊢
  by_cases hjt:j < B.length
  ·rw [rowM_drop hjt] at hro
   have hi1:i+j < D.length:=by omega
   have hidx:((i:Int)+(j:Int)).toNat = i+j:=by omega
   have hi2:((i:Int)+(j:Int)).toNat < D.length:=by omega
   have ha:=hrA A[i] (List.getElem_mem hlt)
   have hb:=hrB B[j] (List.getElem_mem hjt)
   have hc:=hD (D[((i:Int)+(j:Int)).toNat]'hi2) (List.getElem_mem _)
   have c1:=k271 P A[i] B[j] (by omega) ha hb
   have c2:=k272 P (D[((i:Int)+(j:Int)).toNat]'hi2) (A[i] * B[j] % P) (by omega) hc (emod_rng (by omega))
   refine W.run ?_
   refine W.kl (j+1,D.set (i+j) ((D.getD (i+j) 0+A[i] * B[j] % P) % P)) rfl ?_ (by omega) ⟨by dsimp only;omega,by simpa using hl1,hD.set _ (emod_rng (by omega)),hro⟩ (by dsimp only;omega)
   refine HS.put ?_ (HS.refl _)
   rw [← hidx,List.getD_eq_getElem?_getD,List.getElem?_eq_getElem hi2,Option.getD_some,List.set_eq_take_append_cons_drop,if_pos hi2];simp
  ·have : j = B.length := by omega
   subst this
   rw [List.drop_length] at hro
   refine W.run ?_
   refine W.kl (i+1,D) rfl (HS.refl _) (by omega) ⟨by dsimp only;omega,hl1,hD,?_⟩ (by dsimp only;omega)
   dsimp only
   rw [← hpr,← hro];rfl
 ·have : i = A.length := by omega
  subst this
  rw [List.drop_length] at hpr
  have c3:=k208 C (by omega)
  have c4:PureC Tryz.prog 208 [.sl (C.map (V.int .i64)) n] (fun r=>r = slI (trimI C)):=by rw [← hl];exact c3
  refine W.run ?_
  rw [← hpr];rfl
theorem newtF_drop {P:Int} {i:Nat} {xs ys out zero:List Int} (h1:i < xs.length) (h2:i < ys.length):newtF P (xs.drop i) (ys.drop i) out zero = newtF P (xs.drop (i+1)) (ys.drop (i+1)) (plusF P out (((ys[i] - valM P xs[i] out+P) % P) * (valM P xs[i] zero ^ (P - 2).toNat % P) % P) zero) (timesF P zero [(0 - xs[i]+P) % P,1]):=by
 rw [List.drop_eq_getElem_cons h1,List.drop_eq_getElem_cons h2];rfl
theorem zero_new {P x:Int} (h:PrimeI P) {zero done:List Int} (hz:∀ z,evI zero z % P = prodAt z done * (-1) ^ done.length % P) (hx:∀ w∈done,¬ P ∣ w - x):¬ P ∣ valM P x zero:=by
 rw [valM_ev,hz]
 intro hdv
 have e:=Int.emod_eq_zero_of_dvd hdv
 rw [Int.emod_emod] at e
 rcases h.mul (Int.dvd_of_emod_eq_zero e) with h4 | h4
 ·exact prodAt_ndvd h done hx h4
 ·have:∀ n:Nat,¬ P ∣ (-1:Int) ^ n:=by
   intro n
   induction n with
   | zero=>simpa using not_dvd_small (by omega) h.1
   | succ n ih =>
    intro hdv
    rw [Int.pow_succ] at hdv
    rcases h.mul hdv with h5 | h5
    ·exact ih h5
    ·have : P ∣ 1 := by have := Int.dvd_neg.2 h5; simpa using this
     exact not_dvd_small (by omega) h.1 this
  exact this _ h4
theorem zero_times {P x:Int} {zero done:List Int} (hz:∀ z,evI zero z % P = prodAt z done * (-1) ^ done.length % P) (z:Int):evI (timesF P zero [(0 - x+P) % P,1]) z % P = prodAt z (done++[x]) * (-1) ^ (done++[x]).length % P:=by
 rw [timesF_ev]
 have e1:evI [(0 - x+P) % P,1] z % P = ((x - z) * (-1)) % P:=by
  show ((0 - x+P) % P+z * (1+z * 0)) % P = _
  rw [Int.emod_add_emod]
  have:0 - x+P+z * (1+z * 0) = (x - z) * (-1)+P:=by
   rw [Int.mul_zero,Int.add_zero,Int.mul_one];omega
  rw [this,Int.add_emod,Int.emod_self,Int.add_zero,Int.emod_emod]
 rw [mul_mod_congr (hz z) e1 (P:=P)]
 congr 1
 have e2:∀ (l:List Int),prodAt z (l++[x]) = prodAt z l * (x - z):=by
  intro l
  induction l with
  | nil=>simp [prodAt]
  | cons w l ih=>simp only [List.cons_append,prodAt,ih,Int.mul_assoc]
 rw [e2,List.length_append,List.length_singleton,Int.pow_succ]
 rw [Int.mul_assoc,Int.mul_assoc,Int.mul_left_comm (x - z)]
set_option maxRecDepth 10000 in
set_option maxHeartbeats 1000000 in
theorem k148 (P g:Int) (hp:PrimeI P) (hP:3≤P∧P < 2 ^ 31) (X Y:List Int) (hl:X.length = Y.length) (hX:X.length≤200) (hrX:InF P X) (hrY:InF P Y) (hn:X.Nodup):PureC Tryz.prog 148 [fieldV P g,slI X,slI Y] (fun r=>r = slI (newtF P X Y [] [1])∨X = []∧r = .nils):=by
 have m1:=mt1
 have m2:=mt2
 have m3:=mt3
 have m4:=mt4
 refine pureC_of_wp .x mixed ok148 rfl ?_
 unfold c148
 dsimp only [argE,fieldV,fldC]
 refine W.run ?_
 refine W.lp (fun y:Nat × List Int × List Int=>[(0,fieldV P g),(2,slI Y),(7,match y.1 with | 0=>V.nils | _+1=>slI y.2.1),(8,match y.1 with | 0=>V.ref 16 0 0 1 | _+1=>slI y.2.2),(13,slI X),(14,.int .i64 (X.length:Int)),(15,.int .i64 (y.1:Int))]) (fun y=>match y.1 with | 0=>Hp.put (fun _=>none) 16 { cells:=[.int .i64 1],sz:=1 } | _+1=>fun _=>none)
  (fun y=>y.1≤X.length∧(y.1 = 0→y.2.1 = []∧y.2.2 = [1])∧InF P y.2.1∧InF P y.2.2∧y.2.1.length≤y.1∧y.2.2.length≤y.1+1∧(∀ z,evI y.2.2 z % P = prodAt z (X.take y.1) * (-1) ^ (X.take y.1).length % P)∧newtF P (X.drop y.1) (Y.drop y.1) y.2.1 y.2.2 = newtF P X Y [] [1]) (fun y=>X.length - y.1) (0,[],[1]) rfl (HS.refl _) ?_ ?_
 ·refine ⟨by dsimp only; omega, fun _ => ⟨rfl, rfl⟩, InF.nil, InF.cons (by omega) InF.nil, by simp, by simp, fun z => ?_, by rw [List.drop_zero, List.drop_zero]⟩
  simp [evI,prodAt]
 rintro ⟨i,out,zero⟩ nx ⟨hi,h00,ho,hz,l1,l2,h2,h3⟩ hnx
 dsimp only at hi h00 ho hz l1 l2 h2 h3
 by_cases hlt:i < X.length
 ·have hlt2 : i < Y.length := by omega
  rw [newtF_drop hlt hlt2] at h3
  have hx:=hrX X[i] (List.getElem_mem hlt)
  have hy:=hrY Y[i] (List.getElem_mem hlt2)
  have hnew:¬ P ∣ valM P X[i] zero:=zero_new hp h2 fun w hw hdv=>by
   have hwX:=List.mem_of_mem_take hw
   have e:=emod_of_dvd_sub hdv
   have:=hrX w hwX
   rw [Int.emod_eq_of_lt this.1 this.2,Int.emod_eq_of_lt hx.1 hx.2] at e
   have hn2:=List.nodup_append.1 (by rw [List.take_append_drop];exact hn:(X.take i++X.drop i).Nodup)
   exact hn2.2.2 w hw X[i] (by rw [List.drop_eq_getElem_cons hlt];exact List.mem_cons_self) e
  have hz0:zero.length≠0:=fun h=>hnew (by rw [List.length_eq_zero_iff.1 h];exact ⟨0,by simp [valM]⟩)
  have hx':=zero_times (x:=X[i]) h2
  rw [← List.take_succ_eq_append_getElem hlt] at hx'
  have r1:=valM_rng (P:=P) (x:=X[i]) (by omega) out
  have r2:=valM_rng (P:=P) (x:=X[i]) (by omega) zero
  obtain ⟨v1,hv1⟩:∃ v,v = valM P X[i] out:=⟨_,rfl⟩
  obtain ⟨v2,hv2⟩:∃ v,v = valM P X[i] zero:=⟨_,rfl⟩
  have r3:0≤(Y[i] - v1+P) % P∧(Y[i] - v1+P) % P < P:=emod_rng (by omega)
  have r4:0≤invF P v2∧invF P v2 < P:=emod_rng (by omega)
  obtain ⟨c,hc⟩:∃ c,c = (Y[i] - v1+P) % P * invF P v2 % P:=⟨_,rfl⟩
  have r5:0≤c∧c < P:=hc ▸ emod_rng (by omega)
  have r6:0≤(0 - X[i]+P) % P∧(0 - X[i]+P) % P < P:=emod_rng (by omega)
  have h3':newtF P (X.drop (i+1)) (Y.drop (i+1)) (plusF P out c zero) (timesF P zero [(0 - X[i]+P) % P,1]) = newtF P X Y [] [1]:=by rw [← h3,hc,hv1,hv2];rfl
  have c2:=k269 P Y[i] v1 (by omega) hy (hv1 ▸ r1)
  have c4:=k270 P v2 (by omega) (hv2 ▸ r2)
  have c5:=k271 P ((Y[i] - v1+P) % P) (invF P v2) (by omega) r3 r4
  rw [← hc] at c5
  have cMISSING7:=k269 P 0 X[i] (by omega) (by omega) hx
  have cMISSING8:=k191 P g hP zero [(0 - X[i]+P) % P,1] (by omega) (by simp) hz (InF.cons r6 (InF.cons (by omega) InF.nil)) hz0 (by simp)
  have hin1:InF P (plusF P out c zero):=plusF_in (by omega) ho
  have hin2:InF P (timesF P zero [(0 - X[i]+P) % P,1]):=timesF_in (by omega)
  have hl1:(plusF P out c zero).length≤i+1:=by have:=plusF_len (P:=P) (c:=c) out zero;omega
  have hl2:(timesF P zero [(0 - X[i]+P) % P,1]).length≤i+1+1:=by have:=timesF_len (P:=P) zero [(0 - X[i]+P) % P,1];simp only [List.length_cons,List.length_nil] at this;omega
  rcases i with _ | i
  ·obtain ⟨rfl,rfl⟩:=h00 rfl
   have c1:=k178 P X[0] g hP [] (by simp) ho hx .nils (.inr ⟨rfl,rfl⟩)
   have c3:PureC Tryz.prog 178 [fieldV P g,.sl [.int .i64 1] 1,.int .i64 X[0]] (fun r=>r = .int .i64 (valM P X[0] [1])):=k178 P X[0] g hP [1] (by simp) hz hx (slI [1]) (.inl rfl)
   have c6:PureC Tryz.prog 190 [fieldV P g,.nils,.int .i64 c,.sl [.int .i64 1] 1] (fun r=>r = slI (plusF P [] c [1])):=k190 P c g hP [] [1] (by simp) (by simp) ho hz r5 .nils (.inr ⟨rfl,rfl⟩)
   have cMISSING8:PureC Tryz.prog 191 [fieldV P g,.sl [.int .i64 1] 1,.sl [.int .i64 (((0:Int) - X[0]+P) % P),.int .i64 1] 2] (fun r=>r = slI (timesF P [1] [((0:Int) - X[0]+P) % P,1])):=cMISSING8
   rw [← hv1] at c1
   rw [← hv2] at c3
   dsimp only [fieldV,fldC] at c1 c3 c6 cMISSING8 ⊢
   refine W.run ?_
   refine W.kl (1,plusF P [] c [1],timesF P [1] [((0:Int) - X[0]+P) % P,1]) rfl (HS.emp _) (by omega) ⟨by dsimp only;omega,fun h=>absurd h (by simp),hin1,hin2,hl1,hl2,hx',h3'⟩ (by dsimp only;omega)
  ·have c1 := k178 P X[i + 1] g hP out (by omega) ho hx (slI out) (.inl rfl)
   have c3:=k178 P X[i+1] g hP zero (by omega) hz hx (slI zero) (.inl rfl)
   have cMISSING8:PureC Tryz.prog 191 [fieldV P g,slI zero,.sl [.int .i64 (((0:Int) - X[i+1]+P) % P),.int .i64 1] 2] (fun r=>r = slI (timesF P zero [((0:Int) - X[i+1]+P) % P,1])):=cMISSING8
   have c6:=k190 P c g hP out zero (by omega) (by omega) ho hz r5 (slI out) (.inl rfl)
   rw [← hv1] at c1
   rw [← hv2] at c3
   dsimp only [fieldV,fldC] at c1 c3 c6 cMISSING8 ⊢
   refine W.run ?_
   refine W.kl (i+1+1,plusF P out c zero,timesF P zero [((0:Int) - X[i+1]+P) % P,1]) rfl (HS.emp _) (by omega) ⟨by dsimp only;omega,fun h=>absurd h (by simp),hin1,hin2,hl1,hl2,hx',h3'⟩ (by dsimp only;omega)
 ·have hi' : i = X.length := by omega
  rw [hi',List.drop_length] at h3
  have h4:out = newtF P X Y [] [1]:=h3
  rcases i with _ | i
  ·dsimp only [fieldV,fldC]
   refine W.run ?_
   exact .inr ⟨List.length_eq_zero_iff.1 hi'.symm,rfl⟩
  ·dsimp only [fieldV,fldC]
   refine W.run ?_
   rw [← h4];exact .inl rfl
def IsL (pv:V) (A:List Int):Prop:=pv = slI A∨(pv = .nils∧A = [])
theorem IsL.atom {pv:V} {A:List Int} (h:IsL pv A):pv.atom = true:=by rcases h with rfl | ⟨rfl,_⟩ <;> rfl
theorem trim_zero:∀ l:List Int,trimI (l++[0]) = trimI l
 | []=>rfl
 | a::l=>by
  show trimI (a::(l++[0])) = _
  rw [trimI,trim_zero l];rfl
theorem trim_ne {a:Int} (h:a≠0):∀ {l:List Int},trimI (l++[a]) = l++[a]
 | []=>by simp [trimI,h]
 | b::l=>by
  show trimI (b::(l++[a])) = _
  rw [trimI,trim_ne h]
  cases l <;> rfl
set_option maxRecDepth 10000 in
theorem k156 (A:List Int) (hA:A.length < 2 ^ 40):PureC Tryz.prog 156 [slI A] (fun r=>r = slI (trimI A)):=by
 refine pureC_of_wp .x mixed ok156 rfl ?_
 unfold c156
 dsimp only [argE]
 refine W.run ?_
 refine W.lp (fun B:List Int=>[(0,slI B)]) (fun _ _=>none)
  (fun B=>B.length≤A.length∧trimI B = trimI A) (fun B=>B.length) A rfl (HS.refl _) ⟨Nat.le_refl _,rfl⟩ ?_
 rintro B nx ⟨hn,hz⟩ hnx
 by_cases h0:0 < B.length
 ·have hidx : ((B.length : Int) - 1).toNat = B.length - 1 := by omega
  have hl:((B.length:Int) - 1).toNat < B.length:=by omega
  have hB:B = B.take (B.length - 1)++[B[((B.length:Int) - 1).toNat]]:=by
   simp only [hidx]
   rw [List.take_append_getElem (by omega)]
   exact (List.take_of_length_le (by omega)).symm
  by_cases he:B[((B.length:Int) - 1).toNat] = 0
  ·have ht:trimI (B.take (B.length - 1)) = trimI B:=by
    conv=>rhs;rw [hB,he]
    rw [trim_zero]
   refine W.run ?_
   have hl2:(B.take (B.length - 1)).length = B.length - 1:=by simp
   refine W.kl (B.take (B.length - 1)) ?_ (HS.refl _) (by omega) ⟨by omega,by rw [ht,hz]⟩ (by omega)
   rw [hidx]
   show [(0,V.sl ((B.take (B.length - 1)).map (V.int .i64)) (B.length - 1))] = [(0,V.sl ((B.take (B.length - 1)).map (V.int .i64)) (B.take (B.length - 1)).length)]
   rw [hl2]
  ·have ht:trimI B = B:=by
    have:=trim_ne (l:=B.take (B.length - 1)) he
    rwa [← hB] at this
   refine W.run ?_
   rw [← hz,ht]
 ·have : B = [] := List.length_eq_zero_iff.1 (by omega)
  subst this
  refine W.run ?_
  rw [← hz];rfl
set_option maxRecDepth 10000 in
theorem k103 (A:List Int) (hA:A.length < 2 ^ 40) (h0:A.length≠0):PureC Tryz.prog 103 [slI A] (fun r=>r = slI A):=by
 refine pureC_of_wp .x mixed ok103 rfl ?_
 unfold c103
 dsimp only [argE]
 refine W.run ?_
 refine W.lp (fun i:Nat=>[(0,slI A),(3,.ref 8 i 0 i),(4,.int .i64 (i:Int))]) (fun i=>Hp.put (fun _=>none) 8 { cells:=(A.take i).map (V.int .i64),sz:=1,ver:=i,nl:=if i = 0 then 1 else 0 }) (fun i=>i≤A.length) (fun i=>A.length - i) 0 rfl (HS.put (by simp) (HS.refl _)) (by omega) ?_
 rintro i nx hi hnx
 by_cases hlt:i < A.length
 ·refine W.run ?_
  refine W.kl (i+1) rfl (HS.skip (HS.put ?_ (HS.refl _)) (by simp only [Hp.put];repeat (rw [if_neg (by omega)])) _) (by omega) (by omega) (by omega)
  rw [← List.take_append_getElem hlt,List.map_append];rfl
 ·have : i = A.length := by omega
  subst this
  refine W.run ?_
  simp [h0]
theorem k150n (P c:Int) (pv:V) (hpv:IsL pv []):PureC Tryz.prog 150 [refV P,pv,.int .i64 c] (fun r=>r = slI []):=by
 have h2:PureC Tryz.prog 156 [.sl [] 0] (fun r=>r = .sl [] 0):=k156 [] (by simp)
 rcases hpv with rfl | ⟨rfl,_⟩
 ·refine pureC_of_wp .x mixed ok150 rfl ?_
  unfold c150
  dsimp only [argE,refV]
  refine W.run ?_
  refine W.lp (fun _:Unit=>[(1,slI []),(2,.int .i64 c),(3,.ptr 0 0 0),(7,.ref 16 0 0 0),(8,.int .i64 0)]) (fun _=>(Hp.put (fun _=>none) 0 (refO P)).put 16 { cells:=[],sz:=1,nl:=1 }) (fun _=>True) (fun _=>0) () rfl (HS.refl _) trivial ?_
  rintro _ nx _ hnx
  dsimp only [refO]
  refine W.run ?_
  rfl
 ·refine pureC_of_wp .x mixed ok150 rfl ?_
  unfold c150
  dsimp only [argE,refV]
  refine W.run ?_
  refine W.lp (fun _:Unit=>[(1,.nils),(2,.int .i64 c),(3,.ptr 0 0 0),(7,.ref 16 0 0 0),(8,.int .i64 0)]) (fun _=>(Hp.put (fun _=>none) 0 (refO P)).put 16 { cells:=[],sz:=1,nl:=1 }) (fun _=>True) (fun _=>0) () rfl (HS.refl _) trivial ?_
  rintro _ nx _ hnx
  dsimp only [refO]
  refine W.run ?_
  rfl
set_option maxRecDepth 10000 in
set_option maxHeartbeats 1000000 in
theorem k150 (P c:Int) (hP:3≤P∧P < 2 ^ 31) (A:List Int) (hA:A.length < 2 ^ 30) (hrA:InF P A) (hc:0≤c∧c < P) (h0:A.length≠0):PureC Tryz.prog 150 [refV P,slI A,.int .i64 c] (fun r=>r = slI (scaleF P c A)):=by
 have h2:=k156 (A.map fun x=>x * c % P) (by simp;omega)
 refine pureC_of_wp .x mixed ok150 rfl ?_
 unfold c150
 dsimp only [argE,refV]
 refine W.run ?_
 refine W.lp (fun i:Nat=>[(1,slI A),(2,.int .i64 c),(3,.ptr 0 0 0),(7,.ref 16 i 0 i),(8,.int .i64 (i:Int))]) (fun i=>(Hp.put (fun _=>none) 0 (refO P)).put 16 { cells:=((A.take i).map fun x=>x * c % P).map (V.int .i64),sz:=1,ver:=i,nl:=if i = 0 then 1 else 0 }) (fun i=>i≤A.length) (fun i=>A.length - i) 0 rfl (HS.put (by simp) (HS.refl _)) (by omega) ?_
 rintro i nx hi hnx
 dsimp only [refO]
 by_cases hlt:i < A.length
 ·have c1:=k194 P A[i] c hP (hrA _ (List.getElem_mem hlt)) hc
  refine W.run ?_
  refine W.kl (i+1) rfl (HS.skip (HS.put ?_ (HS.refl _)) (by simp only [Hp.put];repeat (rw [if_neg (by omega)])) _) (by omega) (by omega) (by omega)
  rw [← List.take_append_getElem hlt,List.map_append,List.map_append];simp
 ·have : i = A.length := by omega
  subst this
  have hml:(A.map fun x=>x * c % P).length = A.length:=by simp
  unfold slI at h2
  rw [hml] at h2
  rw [List.take_length,if_neg h0]
  refine W.run ?_
  rfl
set_option maxRecDepth 10000 in
theorem k151n (P:Int) (B:List Int):PureC Tryz.prog 151 [refV P,slI [],slI B] (fun r=>r = .nils):=by
 refine pureC_of_wp .x mixed ok151 rfl ?_
 unfold c151
 dsimp only [argE,refV]
 refine W.run ?_
 rfl
set_option maxRecDepth 10000 in
set_option maxHeartbeats 1000000 in
theorem k151 (P:Int) (hP:3≤P∧P < 2 ^ 31) (A B:List Int) (hA:A.length < 2 ^ 30) (hB:B.length < 2 ^ 30) (hrA:InF P A) (hrB:InF P B) (h0:A.length≠0) (h1:B.length≠0):PureC Tryz.prog 151 [refV P,slI A,slI B] (fun r=>r = slI (convF P A B)):=by
 refine pureC_of_wp .x mixed ok151 rfl ?_
 unfold c151
 dsimp only [argE,refV]
 obtain ⟨n,hnn⟩:∃ n,n = A.length+B.length - 1:=⟨_,rfl⟩
 have hcl:(convF P A B).length = n:=by rw [convF_len,hnn]
 have hn:((A.length:Int)+(B.length:Int) - 1).toNat = n:=by omega
 refine W.run ?_
 rw [hn,zeros_map]
 refine W.run ?_
 refine W.lp (fun y:Nat × List Int=>[(1,slI A),(2,slI B),(3,.ptr 0 0 0),(7,.ref 128 0 0 n),(8,.int .i64 (y.1:Int))]) (fun y=>(Hp.put (fun _=>none) 0 (refO P)).put 128 { cells:=y.2.map (V.int .i64),sz:=1 })
   (fun y=>y.1≤A.length∧y.2.length = n∧InF P y.2∧prodM P B (A.drop y.1) y.1 y.2 = convF P A B) (fun y=>A.length - y.1) (0,List.replicate n 0) rfl (HS.refl _) ⟨by dsimp only;omega,by simp,InF.rep (by omega) n,by rw [List.drop_zero,hnn];rfl⟩ ?_
 rintro ⟨i,C⟩ nx ⟨hi,hl,hC,hpr⟩ hnx
 dsimp only [refO] at hi hl hC hpr ⊢
 by_cases hlt:i < A.length
 ·rw [prodM_drop hlt] at hpr
  refine W.run ?_
  refine W.lp (fun y:Nat × List Int=>[(1,slI A),(2,slI B),(3,.ptr 0 0 0),(7,.ref 128 0 0 n),(8,.int .i64 (i:Int)),(9,.int .i64 (y.1:Int))]) (fun y=>(Hp.put (fun _=>none) 0 (refO P)).put 128 { cells:=y.2.map (V.int .i64),sz:=1 })
   (fun y=>y.1≤B.length∧y.2.length = n∧InF P y.2∧rowM P A[i] i (B.drop y.1) y.1 y.2 = rowM P A[i] i B 0 C) (fun y=>B.length - y.1) (0,C) rfl (HS.refl _) ⟨by dsimp only;omega,hl,hC,by rw [List.drop_zero]⟩ ?_
  rintro ⟨j,D⟩ nx1 ⟨hj,hl1,hD,hro⟩ hnx1
  dsimp only [refO] at hj hl1 hD hro ⊢
  by_cases hjt:j < B.length
  ·rw [rowM_drop hjt] at hro
   have hi1:i+j < D.length:=by omega
   have hidx:((i:Int)+(j:Int)).toNat = i+j:=by omega
   have hi2:((i:Int)+(j:Int)).toNat < D.length:=by omega
   have ha:=hrA A[i] (List.getElem_mem hlt)
   have hb:=hrB B[j] (List.getElem_mem hjt)
   have hc:=hD (D[((i:Int)+(j:Int)).toNat]'hi2) (List.getElem_mem _)
   have c1:=k194 P A[i] B[j] hP ha hb
   have c2:=k195 P (D[((i:Int)+(j:Int)).toNat]'hi2) (A[i] * B[j] % P) hP hc (emod_rng (by omega))
   refine W.run ?_
   refine W.kl (j+1,D.set (i+j) ((D.getD (i+j) 0+A[i] * B[j] % P) % P)) rfl ?_ (by omega) ⟨by dsimp only;omega,by simpa using hl1,hD.set _ (emod_rng (by omega)),hro⟩ (by dsimp only;omega)
   refine HS.put ?_ (HS.refl _)
   rw [← hidx,List.getD_eq_getElem?_getD,List.getElem?_eq_getElem hi2,Option.getD_some,List.set_eq_take_append_cons_drop,if_pos hi2];simp
  ·have : j = B.length := by omega
   subst this
   rw [List.drop_length] at hro
   refine W.run ?_
   refine W.kl (i+1,D) rfl (HS.refl _) (by omega) ⟨by dsimp only;omega,hl1,hD,?_⟩ (by dsimp only;omega)
   dsimp only
   rw [← hpr,← hro];rfl
 ·have : i = A.length := by omega
  subst this
  rw [List.drop_length] at hpr
  have e:convF P A B = C:=hpr.symm
  rw [e]
  refine W.run ?_
  rw [← hl]
theorem addR_get {P:Int}:∀ {A B:List Int} {i:Nat} (h:i < (addR P A B).length),(addR P A B)[i] = if hB:i < B.length then ((if hA:i < A.length then A[i] else 0)+B[i]) % P else A.getD i 0
 | A,[],i,h=>by
  cases A with
  | nil=>simp [addR] at h
  | cons x p =>
   have:i < (x::p).length:=by simpa [addR] using h
   simp [addR,List.getD_eq_getElem?_getD,List.getElem?_eq_getElem this]
 | [],b::B,0,h=>by simp [addR]
 | [],b::B,i+1,h=>by
  have:=addR_get (P:=P) (A:=[]) (B:=B) (i:=i) (by simpa [addR] using h)
  simp only [addR,List.getElem_cons_succ,this]
  simp
 | a::A,b::B,0,h=>by simp [addR]
 | a::A,b::B,i+1,h=>by
  have:=addR_get (P:=P) (A:=A) (B:=B) (i:=i) (by simpa [addR] using h)
  simp only [addR,List.getElem_cons_succ,this]
  simp
set_option maxRecDepth 10000 in
set_option maxHeartbeats 1000000 in
theorem k155 (P:Int) (hP:3≤P∧P < 2 ^ 31) (A B:List Int) (hA:A.length < 2 ^ 30) (hB:B.length < 2 ^ 30) (hrA:InF P A) (hrB:InF P B) (pv:V) (hpv:IsL pv A):PureC Tryz.prog 155 [refV P,pv,slI B] (fun r=>r = slI (sumR P A B)):=by
 obtain ⟨C,hC⟩:∃ C,C = addR P A B:=⟨_,rfl⟩
 have hCl:C.length = max A.length B.length:=by rw [hC,addR_len]
 have h2:=k156 C (by omega)
 have hCg:∀ i (h:i < C.length),C[i] = if hB:i < B.length then ((if hA:i < A.length then A[i] else 0)+B[i]) % P else A.getD i 0:=fun i h=>by
  subst hC;exact addR_get h
 have e:sumR P A B = trimI C:=by rw [hC];rfl
 rw [e]
 clear e hC
 rcases hpv with rfl | ⟨rfl,rfl⟩
 ·refine pureC_of_wp .x mixed ok155 rfl ?_
  unfold c155
  dsimp only [argE,refV]
  refine W.run ?_
  refine W.lp (fun i:Nat=>[(1,slI A),(2,slI B),(3,.ptr 0 0 0),(7,.ref 16 i 0 i),(8,.int .i64 (i:Int))]) (fun i=>(Hp.put (fun _=>none) 0 (refO P)).put 16 { cells:=(C.take i).map (V.int .i64),sz:=1,ver:=i,nl:=if i = 0 then 1 else 0 }) (fun i=>i≤C.length) (fun i=>C.length - i) 0 rfl (HS.put (by simp) (HS.refl _)) (by omega) ?_
  rintro i nx hi hnx
  dsimp only [refO]
  by_cases hlt:i < C.length
  ·have hg:=hCg i hlt
   have fin:(C.take (i+1)).map (V.int .i64) = (C.take i).map (V.int .i64)++[V.int .i64 C[i]]:=by
    rw [← List.take_append_getElem hlt,List.map_append];rfl
   by_cases hia:i < A.length
   ·by_cases hib:i < B.length
    ·rw [dif_pos hib,dif_pos hia] at hg
     have c1:=k195 P A[i] B[i] hP (hrA _ (List.getElem_mem hia)) (hrB _ (List.getElem_mem hib))
     rw [← hg] at c1
     refine W.run ?_
     refine W.kl (i+1) rfl (HS.skip (HS.put ?_ (HS.refl _)) (by simp only [Hp.put];repeat (rw [if_neg (by omega)])) _) (by omega) (by omega) (by omega)
     rw [fin];simp
    ·rw [dif_neg hib,List.getD_eq_getElem?_getD,List.getElem?_eq_getElem hia,Option.getD_some] at hg
     refine W.run ?_
     refine W.kl (i+1) rfl (HS.skip (HS.put ?_ (HS.refl _)) (by simp only [Hp.put];repeat (rw [if_neg (by omega)])) _) (by omega) (by omega) (by omega)
     rw [fin,hg];simp
   ·have hib : i < B.length := by omega
    rw [dif_pos hib,dif_neg hia] at hg
    have c1:=k195 P 0 B[i] hP (by omega) (hrB _ (List.getElem_mem hib))
    rw [← hg] at c1
    refine W.run ?_
    refine W.kl (i+1) rfl (HS.skip (HS.put ?_ (HS.refl _)) (by simp only [Hp.put];repeat (rw [if_neg (by omega)])) _) (by omega) (by omega) (by omega)
    rw [fin];simp
  ·have : i = C.length := by omega
   subst this
   rw [List.take_length]
   refine W.run ?_
   rfl
 ·refine pureC_of_wp .x mixed ok155 rfl ?_
  unfold c155
  dsimp only [argE,refV]
  refine W.run ?_
  refine W.lp (fun i:Nat=>[(1,.nils),(2,slI B),(3,.ptr 0 0 0),(7,.ref 16 i 0 i),(8,.int .i64 (i:Int))]) (fun i=>(Hp.put (fun _=>none) 0 (refO P)).put 16 { cells:=(C.take i).map (V.int .i64),sz:=1,ver:=i,nl:=if i = 0 then 1 else 0 }) (fun i=>i≤C.length) (fun i=>C.length - i) 0 rfl (HS.put (by simp) (HS.refl _)) (by omega) ?_
  rintro i nx hi hnx
  dsimp only [refO]
  simp only [List.length_nil] at hCl
  by_cases hlt:i < C.length
  ·have hg:=hCg i hlt
   have fin:(C.take (i+1)).map (V.int .i64) = (C.take i).map (V.int .i64)++[V.int .i64 C[i]]:=by
    rw [← List.take_append_getElem hlt,List.map_append];rfl
   have hib:i < B.length:=by omega
   rw [dif_pos hib,dif_neg (by simp)] at hg
   have c1:=k195 P 0 B[i] hP (by omega) (hrB _ (List.getElem_mem hib))
   rw [← hg] at c1
   refine W.run ?_
   refine W.kl (i+1) rfl (HS.skip (HS.put ?_ (HS.refl _)) (by simp only [Hp.put];repeat (rw [if_neg (by omega)])) _) (by omega) (by omega) (by omega)
   rw [fin];simp
  ·have : i = C.length := by omega
   subst this
   rw [List.take_length]
   refine W.run ?_
   rfl
structure Ln where
 hall:Int
 kind:Int
 other:Int
 nums:List Int
def isHallB (H h:Int):Bool:=decide (1≤h∧h≤H)
def cntB (H:Int) (x:Ln) (kind n:Int) (another:Bool):Bool :=
 decide (x.kind = kind) && isHallB H x.hall && decide ((x.nums.length:Int) = n) && (!another || (isHallB H x.other && decide (x.other≠x.hall)))
abbrev lnC (x:Ln) (nv:V):List V:=[.int .i64 x.hall,.int .i64 x.kind,.int .i64 x.other,nv]
theorem k65 (R P G H B K h:Int):PureC Tryz.prog 65 [cfgV R P G H B K,.int .i64 h] (fun r=>r = .bool (isHallB H h)):=by
 unfold isHallB
 by_cases h1:1≤h
 ·refine pureC_of_wp .x mixed ok65 rfl ?_
  unfold c65
  dsimp only [argE]
  refine W.run ?_
  simp [h1]
 ·refine pureC_of_wp .x mixed ok65 rfl ?_
  unfold c65
  dsimp only [argE]
  refine W.run ?_
  simp [h1]
set_option maxRecDepth 10000 in
set_option maxHeartbeats 1000000 in
theorem k114 (R P G H B K kind n:Int) (x:Ln) (hx:x.nums.length < 2 ^ 40) (another:Bool) (nv:V) (hnv:IsL nv x.nums):PureC Tryz.prog 114 [cfgV R P G H B K,.agg (lnC x nv),.int .i64 kind,.int .i64 n,.bool another] (fun r=>r = .bool (cntB H x kind n another)):=by
 have c1:=k65 R P G H B K x.hall
 have c2:=k65 R P G H B K x.other
 unfold cntB
 obtain ⟨b1,hb1⟩:∃ b,b = isHallB H x.hall:=⟨_,rfl⟩
 obtain ⟨b2,hb2⟩:∃ b,b = isHallB H x.other:=⟨_,rfl⟩
 rw [← hb1] at c1 ⊢
 rw [← hb2] at c2 ⊢
 clear hb1 hb2
 have hat:=hnv.atom
 have hlen:∀ (c:IOp),True:=fun _=>trivial
 rcases hnv with rfl | ⟨rfl,hn0⟩
 ·refine pureC_of_wp .x mixed ok114 rfl ?_
  unfold c114
  dsimp only [argE,lnC]
  by_cases h1:x.kind = kind
  ·cases b1
   ·refine W.run ?_;simp
   ·by_cases h2:(x.nums.length:Int) = n
    ·cases another
     ·refine W.run ?_;simp [h1,h2]
     ·cases b2
      ·refine W.run ?_;simp
      ·refine W.run ?_;simp [h1,h2]
    ·refine W.run ?_;simp [h2]
  ·refine W.run ?_;simp [h1]
 ·rw [hn0]
  refine pureC_of_wp .x mixed ok114 rfl ?_
  unfold c114
  dsimp only [argE,lnC]
  by_cases h1:x.kind = kind
  ·cases b1
   ·refine W.run ?_;simp
   ·by_cases h2:(0:Int) = n
    ·cases another
     ·refine W.run ?_;simp [h1,← h2]
     ·cases b2
      ·refine W.run ?_;simp
      ·refine W.run ?_;simp [h1,← h2]
    ·refine W.run ?_;simp [h2]
  ·refine W.run ?_;simp [h1]
def lnsC:List (Ln × V)→List V
 | []=>[]
 | p::l=>lnC p.1 p.2++lnsC l
theorem lnsC_len:∀ l,(lnsC l).length = 4 * l.length
 | []=>rfl
 | p::l=>by simp [lnsC,lnsC_len l];omega
theorem lnsC_get:∀ {l:List (Ln × V)} {i:Nat} (h:i < l.length),((lnsC l).drop (i * 4)).take 4 = lnC l[i].1 l[i].2
 | p::l,0,h=>by simp [lnsC]
 | p::l,i+1,h=>by
  have:=lnsC_get (l:=l) (i:=i) (by simpa using h)
  rw [show (i+1) * 4 = 4+i * 4 by omega,← List.drop_drop]
  simpa [lnsC] using this
abbrev lnsV (l:List (Ln × V)):V:=.sl (lnsC l) l.length
theorem k108 (x:Ln) (hx:x.nums.length < 2 ^ 40) (nv:V) (hnv:IsL nv x.nums):PureC Tryz.prog 108 [.agg (lnC x nv)] (fun r=>r = .bool (decide (64 < x.nums.length))):=by
 rcases hnv with rfl | ⟨rfl,hn0⟩
 ·refine pureC_of_wp .x mixed ok108 rfl ?_
  unfold c108
  dsimp only [argE,lnC]
  refine W.run ?_
  simp;omega
 ·rw [hn0]
  refine pureC_of_wp .x mixed ok108 rfl ?_
  unfold c108
  dsimp only [argE,lnC]
  refine W.run ?_
  simp
def idxL (q:Ln→Bool):List (Ln × V)→Int→Int
 | [],_=>-1
 | p::l,i=>if q p.1 then i else idxL q l (i+1)
set_option maxRecDepth 10000 in
set_option maxHeartbeats 1000000 in
theorem k161 (L:List (Ln × V)) (hlen:L.length < 2 ^ 40) (hv:∀ p∈L,IsL p.2 p.1.nums) (g:FuncId) (q:Ln→Bool) (hg:∀ p∈L,PureC Tryz.prog g [.agg (lnC p.1 p.2)] (fun r=>r = .bool (q p.1))) :
  PureC Tryz.prog 161 [lnsV L,.clo (.func g) [] []] (fun r=>r = .int .i64 (idxL q L 0)):=by
 refine pureC_of_wp .x mixed ok161 rfl ?_
 unfold c161
 dsimp only [argE]
 refine W.run ?_
 refine W.lp (fun i:Nat=>[(0,lnsV L),(1,.clo (.func g) [] []),(7,.int .i64 (L.length:Int)),(8,.int .i64 (i:Int))]) (fun _ _=>none)
  (fun i=>i≤L.length∧idxL q L 0 = idxL q (L.drop i) i) (fun i=>L.length - i) 0 rfl (HS.refl _) ⟨by omega,rfl⟩ ?_
 rintro i nx ⟨h1,h2⟩ hnx
 have hll:=lnsC_len L
 by_cases hi:i < L.length
 ·have hgi:=lnsC_get hi
  have hgc:=hg L[i] (List.getElem_mem hi)
  have hvi:=hv L[i] (List.getElem_mem hi)
  rw [List.drop_eq_getElem_cons hi] at h2
  have h3:idxL q (L[i]::L.drop (i+1)) i = if q L[i].1 then (i:Int) else idxL q (L.drop (i+1)) (i+1):=rfl
  rw [h3] at h2
  clear hg hv h3
  generalize L[i] = p at *
  obtain ⟨x,nv⟩:=p
  dsimp only at hgi hgc hvi h2
  rcases hvi with rfl | ⟨rfl,_⟩
  all_goals
   cases hq:q x
   ·rw [hq] at h2 hgc
    refine W.run ?_
    rw [hgi]
    refine W.run ?_
    exact W.kl (i+1) rfl (HS.refl _) (by omega) ⟨by omega,by simpa using h2⟩ (by omega)
   ·rw [hq] at h2 hgc
    refine W.run ?_
    rw [hgi]
    refine W.run ?_
    rw [h2];rfl
 ·have : i = L.length := by omega
  subst this
  refine W.run ?_
  rw [h2,List.drop_length];rfl
theorem idxL_any {q:Ln→Bool}:∀ (l:List (Ln × V)) (i:Int),0≤i→(0≤idxL q l i↔(l.any fun p=>q p.1) = true)
 | [],i,_=>by simp [idxL]
 | p::l,i,hi=>by
  have ih:=idxL_any (q:=q) l (i+1) (by omega)
  cases h:q p.1
  ·simp only [idxL,h,List.any_cons,Bool.false_or];simpa using ih
  ·simp [idxL,h,hi]
theorem k107 (L:List (Ln × V)) (hlen:L.length < 2 ^ 40) (hv:∀ p∈L,IsL p.2 p.1.nums) (g:FuncId) (q:Ln→Bool) (hg:∀ p∈L,PureC Tryz.prog g [.agg (lnC p.1 p.2)] (fun r=>r = .bool (q p.1))) :
  PureC Tryz.prog 107 [lnsV L,.clo (.func g) [] []] (fun r=>r = .bool (L.any fun p=>q p.1)):=by
 have c1:=k161 L hlen hv g q hg
 have hi:=idxL_any (q:=q) L 0 (by omega)
 clear hg
 refine pureC_of_wp .x mixed ok107 rfl ?_
 unfold c107
 dsimp only [argE]
 cases hq:L.any fun p=>q p.1
 ·have : ¬ 0 ≤ idxL q L 0 := fun h => by have := hi.1 h; rw [hq] at this; cases this
  clear hi
  refine W.run ?_
  rfl
 ·have:0≤idxL q L 0:=hi.2 hq
  clear hi
  refine W.run ?_
  rfl
abbrev brdV (l1 l2 l3 l4:List (Ln × V)):V:=.agg [lnsV l1,lnsV l2,lnsV l3,lnsV l4]
theorem k56 (l1 l2 l3 l4:List (Ln × V)):PureC Tryz.prog 56 [brdV l1 l2 l3 l4] (fun r=>r = brdV l1 l2 l3 l4):=by
 refine pureC_of_wp .x mixed ok56 rfl ?_
 unfold c56
 dsimp only [argE]
 refine W.run ?_
 rfl
end Go.Dp
