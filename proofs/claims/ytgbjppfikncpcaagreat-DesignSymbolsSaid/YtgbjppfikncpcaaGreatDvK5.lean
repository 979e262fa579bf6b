import Derived.Test.YtgbjppfikncpcaaGreatDvK1
namespace Go.Dp
open Go.RowKit Go.Proofs
attribute [local irreducible] wp wpOps wpOp1 CallW CallT kSeq kBlk kLoop kReg retP retR kAsg kRound kRf kCut kItr kItr2
set_option linter.unusedVariables false
set_option linter.unusedSimpArgs false
def rngE (a b:Int):Int:=if a = 0∨b = 0 then 6 else if a < -1000000∨1000000 < a∨b < -1000000∨1000000 < b then 1 else 0
theorem k29 (a b:Int):PureC Tryz.prog 29 [.int .i64 a,.int .i64 b] (fun r=>r = .int .i64 (rngE a b)):=by
 refine pureC_of_wp .x mixed ok29 rfl ?_
 unfold c29 rngE
 dsimp only [argE]
 by_cases h1:a = 0
 ·refine W.run ?_
  rw [if_pos (.inl h1)]
 by_cases h2:b = 0
 ·refine W.run ?_
  rw [if_pos (.inr h2)]
 rw [if_neg (by omega)]
 by_cases h3:a < -1000000
 ·refine W.run ?_
  rw [if_pos (.inl h3)]
 by_cases h4:1000000 < a
 ·refine W.run ?_
  rw [if_pos (.inr (.inl h4))]
 by_cases h5:b < -1000000
 ·refine W.run ?_
  rw [if_pos (.inr (.inr (.inl h5)))]
 by_cases h6:1000000 < b
 ·refine W.run ?_
  rw [if_pos (.inr (.inr (.inr h6)))]
 rw [if_neg (by omega)]
 refine W.run ?_
 rfl
theorem k8 (a b:Int):PureC Tryz.prog 8 [.int .i64 a,.int .i64 b] (fun r=>r = .int .i64 (rngE a b)):=by
 refine pureC_of_wp .x mixed ok8 rfl ?_
 unfold c8 rngE
 dsimp only [argE]
 by_cases h1:a = 0
 ·refine W.run ?_
  rw [if_pos (.inl h1)]
 by_cases h2:b = 0
 ·refine W.run ?_
  rw [if_pos (.inr h2)]
 rw [if_neg (by omega)]
 by_cases h4:1000000 < a
 ·refine W.run ?_
  rw [if_pos (.inr (.inl h4))]
 by_cases h3:a < -1000000
 ·refine W.run ?_
  rw [if_pos (.inl h3)]
 by_cases h6:1000000 < b
 ·refine W.run ?_
  rw [if_pos (.inr (.inr (.inr h6)))]
 by_cases h5:b < -1000000
 ·refine W.run ?_
  rw [if_pos (.inr (.inr (.inl h5)))]
 rw [if_neg (by omega)]
 refine W.run ?_
 rfl
theorem rngE_0 {a b:Int} (h:rngE a b = 0):(a≠0∧-1000000≤a∧a≤1000000)∧b≠0∧-1000000≤b∧b≤1000000:=by
 unfold rngE at h
 split at h
 ·omega
 ·split at h <;> omega
theorem sq_le {d n:Int} (h1:2≤d) (h2:d * d≤n):2 * d≤n:=by
 have:2 * d≤d * d:=Int.mul_le_mul_of_nonneg_right h1 (by omega)
 omega
theorem sq_lt {d:Int} (h1:2≤d) (h2:d * d < 2 ^ 40):d < 2 ^ 20:=by
 by_cases h:d < 2 ^ 20
 ·exact h
 ·have : 2 ^ 20 * 2 ^ 20 ≤ d * d := Int.mul_le_mul (by omega) (by omega) (by omega) (by omega)
  omega
theorem sq_bd {d:Int} (h1:2≤d) (h2:d≤2 ^ 20):0≤d * d∧d * d≤2 ^ 40:=by
 have:d * d≤2 ^ 20 * 2 ^ 20:=Int.mul_le_mul (by omega) (by omega) (by omega) (by omega)
 exact ⟨Int.mul_nonneg (by omega) (by omega),by omega⟩
set_option maxRecDepth 10000 in
theorem k33 (n:Int) (h0:-2^63≤n) (hn:n < 2^40):PureC Tryz.prog 33 [.int .i64 n] (fun r=>r = .bool (primeB n)):=by
 refine pureC_of_wp .x mixed ok33 rfl ?_
 unfold c33
 dsimp only [argE]
 refine W.go ?_
 refine W.lp (fun d:Int=>[(0,.int .i64 n),(3,.int .i64 d)]) (fun _ _=>none)
  (fun d=>(2≤d∧d≤2 ^ 20)∧∀ e,2≤e→e < d→n % e≠0) (fun d=>(n+5 - d).toNat) 2 rfl (HS.refl _) ⟨by omega,fun e h1 h2=>by omega⟩ ?_
 rintro d nx ⟨⟨h1,h2⟩,h3⟩ hnx
 have p1:=sq_bd h1 h2
 by_cases hd:d * d≤n
 ·have p2:=sq_le h1 hd
  by_cases hz:n % d = 0
  ·refine W.go ?_
   rw [primeB_not]
   rintro ⟨a,b⟩
   exact b d h1 hd hz
  ·refine W.go ?_
   refine W.kl (d+1) rfl (HS.refl _) (by omega) ⟨⟨by omega,?_⟩,?_⟩ (by omega)
   ·have:=sq_lt h1 (by omega);omega
   ·intro e he1 he2
    by_cases he:e = d
    ·subst he;exact hz
    ·exact h3 e he1 (by omega)
 ·by_cases hg:1 < n
  ·refine W.go ?_
   rw [primeB_of]
   refine ⟨hg,fun e he1 he2=>?_⟩
   by_cases hed:e < d
   ·exact h3 e he1 hed
   ·exact absurd (Int.le_trans (Int.mul_le_mul (by omega:d≤e) (by omega:d≤e) (by omega) (by omega)) he2) hd
  ·refine W.go ?_
   rw [primeB_not]
   exact fun a=>hg a.1
noncomputable def plcB (p:Int):Bool:=decide (p = -1) || decide (p≤1000000) && primeB p
theorem k11 (p:Int) (h:-2 ^ 63≤p):PureC Tryz.prog 11 [.int .i64 p] (fun r=>r = .bool (plcB p)):=by
 refine pureC_of_wp .x mixed ok11 rfl ?_
 unfold c11 plcB
 dsimp only [argE]
 by_cases h1:p = -1
 ·refine W.run ?_
  rw [decide_eq_true h1];rfl
 ·by_cases h2:p≤1000000
  ·have c := k33 p h (by omega)
   refine W.run ?_
   rw [decide_eq_false h1,decide_eq_true h2,Bool.false_or,Bool.true_and]
  ·refine W.run ?_
   rw [decide_eq_false h1,decide_eq_false h2];rfl
theorem spl_ok {n p:Int} (hn:n≠0∧-1000000≤n∧n≤1000000) (hp:2≤p):(0≤(spl n p).1∧(spl n p).1≤1000000)∧(spl n p).2≠0∧-1000000≤(spl n p).2∧(spl n p).2≤1000000:=by
 obtain ⟨h1,h2,h3,h4,h5⟩:=splitI_ok hp n.natAbs n hn.1 (Nat.le_refl _)
 unfold spl
 omega
theorem sq_pos' {w:Int} (h:w≠0∧-1000000≤w∧w≤1000000):1≤w * w∧w * w≤1000000000000:=by
 have e:w * w = ((w.natAbs * w.natAbs:Nat):Int):=by rw [Int.natAbs_mul_self' w |>.symm];simp
 have h1:1 * 1≤w.natAbs * w.natAbs:=Nat.mul_le_mul (by omega) (by omega)
 have h2:w.natAbs * w.natAbs≤1000000 * 1000000:=Nat.mul_le_mul (by omega) (by omega)
 omega
theorem mul_abs_bd {a b A B:Int} (ha:-A≤a∧a≤A) (hb:-B≤b∧b≤B):-(A * B)≤a * b∧a * b≤A * B:=by
 have h1:(a * b).natAbs≤A.natAbs * B.natAbs:=by
  rw [Int.natAbs_mul]
  exact Nat.mul_le_mul (by omega) (by omega)
 have h2:A * B = ((A.natAbs * B.natAbs:Nat):Int):=by
  rw [Int.natCast_mul,Int.natAbs_of_nonneg (by omega),Int.natAbs_of_nonneg (by omega)]
 omega
theorem half_bd {u:Int} (h:-1000000≤u∧u≤1000000):-600000≤(u - 1).tdiv 2∧(u - 1).tdiv 2≤600000:=by
 have:=Int.mul_tdiv_add_tmod (u - 1) 2
 have h1:-2 < (u - 1).tmod 2:=Int.lt_tmod_of_pos _ (by omega)
 have h2:(u - 1).tmod 2 < 2:=Int.tmod_lt_of_pos _ (by omega)
 omega
set_option maxRecDepth 10000 in
set_option maxHeartbeats 1000000 in
theorem k31 (a b p:Int) (ha:a≠0∧-1000000≤a∧a≤1000000) (hb:b≠0∧-1000000≤b∧b≤1000000) (hp:p = -1∨2≤p∧p≤1000000):PureC Tryz.prog 31 [.int .i64 a,.int .i64 b,.int .i64 p] (fun r=>r = .int .i64 (symM a b p)):=by
 refine pureC_of_wp .x mixed ok31 rfl ?_
 unfold c31 symM
 dsimp only [argE]
 by_cases h1:p = -1
 ·rw [if_pos h1]
  by_cases h2:a < 0
  ·by_cases h3:b < 0
   ·refine W.run ?_
    rw [if_pos ⟨h2,h3⟩]
   ·refine W.run ?_
    rw [if_neg (by omega)]
  ·refine W.run ?_
   rw [if_neg (by omega)]
 have hp2:2≤p∧p≤1000000:=by omega
 rw [if_neg h1]
 have c1:=k48 a p (by omega) (by omega)
 have c2:=k48 b p (by omega) (by omega)
 obtain ⟨hi,hu⟩:=spl_ok ha hp2.1
 obtain ⟨hj,hw⟩:=spl_ok hb hp2.1
 generalize (spl a p).1 = i at c1 hi ⊢
 generalize (spl a p).2 = u at c1 hu ⊢
 generalize (spl b p).1 = j at c2 hj ⊢
 generalize (spl b p).2 = w at c2 hw ⊢
 unfold symP
 by_cases h2:p = 2
 ·rw [if_pos h2]
  have q1:=sq_pos' hu
  have q2:=sq_pos' hw
  have q3:=half_bd hu.2
  have q4:=half_bd hw.2
  have q5:=mul_abs_bd q3 q4
  have q6:=mul_abs_bd (a:=i) (b:=(w * w - 1) / 8) (A:=1000000) (B:=125000000000) (by omega) (by omega)
  have q7:=mul_abs_bd (a:=j) (b:=(u * u - 1) / 8) (A:=1000000) (B:=125000000000) (by omega) (by omega)
  have c3:=k49 ((u - 1).tdiv 2 * (w - 1).tdiv 2+i * ((w * w - 1) / 8)+j * ((u * u - 1) / 8)) (by omega)
  refine W.run ?_
  rfl
 ·rw [if_neg h2]
  have q1:=mul_abs_bd (a:=i) (b:=j) (A:=1000000) (B:=1000000) (by omega) (by omega)
  have q2:=mul_abs_bd (a:=i * j) (b:=(p - 1) / 2) (A:=1000000 * 1000000) (B:=500000) q1 (by omega)
  have c3:=k49 (i * j * ((p - 1) / 2)) (by omega)
  have c4:=k50 u p (by omega) (by omega)
  have c5:=k50 w p (by omega) (by omega)
  have s1:=sgnI_pm (i * j * ((p - 1) / 2))
  have s2:=chI_pm u p
  have s3:=chI_pm w p
  generalize sgnI (i * j * ((p - 1) / 2)) = S at c3 s1 ⊢
  generalize chI u p = U at c4 s2 ⊢
  generalize chI w p = W' at c5 s3 ⊢
  have m1:=mul_abs_bd (a:=S) (b:=U) (A:=1) (B:=1) (by omega) (by omega)
  have m2:=mul_abs_bd (a:=S * U) (b:=W') (A:=1 * 1) (B:=1) (by omega) (by omega)
  have m3:=mul_abs_bd (a:=S) (b:=W') (A:=1) (B:=1) (by omega) (by omega)
  clear s1 s2 s3
  by_cases o1:j % 2 = 1
  ·rw [if_pos o1]
   by_cases o2:i % 2 = 1
   ·rw [if_pos o2]
    refine W.run ?_
    rfl
   ·rw [if_neg o2,Int.mul_one]
    refine W.run ?_
    rfl
  ·rw [if_neg o1,Int.mul_one]
   by_cases o2:i % 2 = 1
   ·rw [if_pos o2]
    refine W.run ?_
    rfl
   ·rw [if_neg o2,Int.mul_one]
    refine W.run ?_
    rfl
theorem k113 (a:Int):PureC Tryz.prog 113 [.int .i64 a] (fun r=>r = .bool false):=by
 refine pureC_of_wp .x mixed ok113 rfl ?_
 unfold c113
 dsimp only [argE]
 refine W.run ?_
 rfl
theorem k84 (a b:Int):PureC Tryz.prog 84 [.int .i64 a,.int .i64 b] (fun r=>r = .bool (decide (a < b))):=by
 have c1:=k113 a
 have c2:=k113 b
 refine pureC_of_wp .x mixed ok84 rfl ?_
 unfold c84
 dsimp only [argE]
 refine W.run ?_
 rfl
def iOb (l:List Int) (ver nq:Nat):Ob:={ cells:=l.map (V.int .i64),sz:=1,ver:=ver,nl:=nq }
theorem put_self {H:Hp} {o:Nat} {ob:Ob} (h:H o = some ob):H.put o ob = H:=by
 funext i
 simp only [Hp.put]
 split
 ·rename_i e;rw [e,h]
 ·rfl
theorem set_tdI {L:List Int} {i:Nat} {v:Int} (h:i < L.length):List.map (V.int .i64) (List.take i L)++[V.int .i64 v]++List.map (V.int .i64) (List.drop (i+1) L) = (L.set i v).map (V.int .i64):=by
 rw [List.set_eq_take_append_cons_drop,if_pos h,List.map_append,List.map_cons,List.append_assoc];rfl
theorem set_tdJ {L:List Int} {i:Nat} {v:Int} (h:i < L.length):List.take i (List.map (V.int .i64) L)++[V.int .i64 v]++List.drop (i+1) (List.map (V.int .i64) L) = (L.set i v).map (V.int .i64):=by
 rw [← List.map_take,← List.map_drop];exact set_tdI h
set_option maxRecDepth 10000 in
set_option maxHeartbeats 2000000 in
theorem k78 (Y:Ys) (H:Hp) (id top ver nq:Nat) (l:List Int) (h:H id = some (iOb l ver nq)) (hlt:id < top) (hl:l.length < 2 ^ 40) :
  RefC Tryz.prog Y 78 [.ref id ver 0 l.length,.int .i64 0,.int .i64 (l.length:Int)] H top (fun r H' t=>H' = H.put id (iOb (srtI l) ver nq)∧top≤t):=by
 have hH:H = H.put id (iOb l ver nq):=(put_self h).symm
 rw [hH]
 clear h hH
 refine refC_of_wp mixed ok78 rfl ?_
 unfold c78
 dsimp only [argE,iOb]
 refine W.run ?_
 refine W.lp (fun i:Nat=>[(0,.ref id ver 0 l.length),(1,.int .i64 0),(2,.int .i64 (l.length:Int)),(6,.int .i64 (i:Int))]) (fun i=>H.put id { cells:=(srtI (l.take i)++l.drop i).map (V.int .i64),sz:=1,ver:=ver,nl:=nq }) (fun i=>1≤i∧(i≤l.length∨i = 1)) (fun i=>l.length - i) 1 rfl ?_ (by omega) ?_
 ·have e:srtI (l.take 1)++l.drop 1 = l:=by
   cases l with
   | nil=>rfl
   | cons a l=>rfl
  rw [e]
  exact HS.refl _
 rintro i nx ⟨hi1,hi2⟩ hnx
 have hSl:(srtI (l.take i)).length = (l.take i).length:=srtI_len _ _ rfl
 have hSs:=srtI_le _ (l.take i) rfl
 by_cases hil:i < l.length
 ·rw [List.length_take, Nat.min_eq_left (by omega)] at hSl
  have hd:l.drop i = l[i]::l.drop (i+1):=List.drop_eq_getElem_cons hil
  have hs:srtI (l.take (i+1)) = insI l[i] (srtI (l.take i)):=by rw [← List.take_append_getElem hil,srtI_snoc]
  have hRl:(l.drop (i+1)).length = l.length - (i+1):=List.length_drop
  generalize hx:l[i] = x at hd hs
  generalize hR:l.drop (i+1) = R at hd hRl
  generalize srtI (l.take i) = S at hSl hSs hs ⊢
  have e0:S++l.drop i = insAt S i x R:=by
   unfold insAt
   rw [hd,List.take_of_length_le (by omega),List.drop_of_length_le (by omega)];rfl
  rw [e0]
  have hL:∀ j,(insAt S j x R).length = l.length:=fun j=>by rw [insAt_len];omega
  clear hx hd e0
  refine W.run ?_
  refine W.lp (fun j:Nat=>[(0,.ref id ver 0 l.length),(1,.int .i64 0),(2,.int .i64 (l.length:Int)),(6,.int .i64 (i:Int)),(7,.int .i64 (j:Int))]) (fun j=>H.put id { cells:=(insAt S j x R).map (V.int .i64),sz:=1,ver:=ver,nl:=nq }) (fun j=>j≤i∧∀ z∈S.drop j,x < z) (fun j=>j) i rfl (HS.refl _) ⟨Nat.le_refl _,fun z hz=>by rw [List.drop_of_length_le (by omega)] at hz;cases hz⟩ ?_
  rintro j nx2 ⟨hj,hz⟩ hnx2
  have hLj:=hL j
  rcases j with _ | j
  ·clear hL
   have he:insI x S = S.take 0++x::S.drop 0:=insI_at hSs (by omega) hz (fun h=>absurd h (by omega))
   refine W.run ?_
   refine W.kl (i+1) rfl ?_ (by omega) (by omega) (by omega)
   rw [hs,he,hR,List.append_assoc]
   exact HS.refl _
  ·have hLj':=hL j
   clear hL
   have ex:(insAt S (j+1) x R)[j+1]'(by omega) = x:=insAt_x (by omega) _
   have ey:(insAt S (j+1) x R)[j]'(by omega) = S[j]:=insAt_y (by omega) _
   have et:(((j+1:Nat):Int) - 1).toNat = j:=by omega
   have c84:=k84 x S[j]
   by_cases hlt2:x < S[j]
   ·have esw := insAt_swap (S := S) (R := R) (x := x) (j := j) (by omega)
    refine W.run ?_
    simp only [et,ex,ey]
    refine W.run ?_
    simp only [et,ex,ey]
    refine W.run ?_
    rw [set_tdI (show j+1 < (insAt S (j+1) x R).length by omega),set_tdJ (by rw [List.length_set];omega),esw,show (((j+1:Nat):Int) - 1) = (j:Int) by omega]
    refine W.kl j rfl (HS.refl _) (by omega) ⟨by omega,fun z hz'=>?_⟩ (by omega)
    rw [List.drop_eq_getElem_cons (show j < S.length by omega)] at hz'
    rcases List.mem_cons.1 hz' with rfl | hz'
    ·exact hlt2
    ·exact hz z hz'
   ·have he : insI x S = S.take (j + 1) ++ x :: S.drop (j + 1) := insI_at hSs (by omega) hz (fun _ => by rw [show S[j + 1 - 1] = S[j] from rfl]; omega)
    refine W.run ?_
    simp only [et,ex,ey]
    refine W.run ?_
    refine W.kl (i+1) rfl ?_ (by omega) (by omega) (by omega)
    rw [hs,he,hR,List.append_assoc]
    exact HS.refl _
 ·have e1 : l.take i = l := List.take_of_length_le (by omega)
  have e2:l.drop i = []:=List.drop_of_length_le (by omega)
  rw [e1,e2,List.append_nil]
  refine W.run ?_
  exact W.retRn rfl (HS.refl _) ⟨put_put.symm,by dsimp only;omega⟩
set_option maxRecDepth 10000 in
theorem k88 (n:Int) (h:0≤n∧n≤12):PureC Tryz.prog 88 [.int .u64 n] (fun r=>∃ k,r = .int .i64 k):=by
 have hc:n = 0∨n = 1∨n = 2∨n = 3∨n = 4∨n = 5∨n = 6∨n = 7∨n = 8∨n = 9∨n = 10∨n = 11∨n = 12:=by omega
 refine pureC_of_wp .x mixed ok88 rfl ?_
 unfold c88
 dsimp only [argE]
 refine W.run ?_
 rcases hc with rfl | rfl | rfl | rfl | rfl | rfl | rfl | rfl | rfl | rfl | rfl | rfl | rfl
 all_goals
  refine W.oprS rfl ?_
  refine W.run ?_
  exact ⟨_,rfl⟩
theorem k61 (n:Int) (h:0≤n∧n≤12):PureC Tryz.prog 61 [.int .u64 n] (fun r=>∃ k,r = .int .i64 k):=by
 have c1:=k88 n h
 refine pureC_of_wp .x mixed ok61 rfl ?_
 unfold c61
 dsimp only [argE]
 refine W.run ?_
 refine W.pc0R c1 rfl ⟨_,0,rfl⟩ ?_
 rintro r ⟨k,rfl⟩
 refine ⟨_,rfl,?_⟩
 refine W.run ?_
 exact ⟨k,rfl⟩
set_option maxRecDepth 10000 in
theorem k60 (Y:Ys) (H:Hp) (id top ver nq:Nat) (l:List Int) (lim:Int) (h:H id = some (iOb l ver nq)) (hlt:id < top) (hl:l.length≤12) :
  RefC Tryz.prog Y 60 [.ref id ver 0 l.length,.int .i64 0,.int .i64 (l.length:Int),.int .i64 lim] H top (fun r H' t=>H' = H.put id (iOb (srtI l) ver nq)∧top≤t):=by
 refine refC_of_wp mixed ok60 rfl ?_
 unfold c60
 dsimp only [argE]
 refine W.run ?_
 refine W.loop (fun n:Nat=>⟨[(0,.ref id ver 0 l.length),(1,.int .i64 0),(2,.int .i64 (l.length:Int)),(3,.int .i64 lim),(8,.bool true),(9,.bool true)],H,n⟩) (fun n=>top≤n) (fun _=>0) _ (by omega) ?_ rfl (HS.refl _) rfl
 rintro n hn
 refine W.run ?_
 refine W.refR (k78 Y H id _ ver nq l h (by omega) (by omega)) ⟨.tup [],_,_,⟨rfl,Nat.le_refl _⟩,Nat.le_refl _,fun j hj h0=>?_⟩ ?_
 ·rw [put_ne (fun e=>by rw [e,h] at h0;cases h0)];exact h0
 ·rintro r H' t ⟨rfl,ht⟩ - -
  refine W.run ?_
  exact W.retR rfl (HS.refl _) ⟨rfl,by dsimp only;omega⟩
set_option maxRecDepth 10000 in
theorem k41 (Y:Ys) (H:Hp) (id top ver nq:Nat) (l:List Int) (h:H id = some (iOb l ver nq)) (hlt:id < top) (hl:l.length≤12) :
  RefC Tryz.prog Y 41 [.ref id ver 0 l.length] H top (fun r H' t=>H' = H.put id (iOb (srtI l) ver nq)∧top≤t):=by
 have c1:=k61 (l.length:Int) (by omega)
 refine refC_of_wp mixed ok41 rfl ?_
 unfold c41
 dsimp only [argE]
 refine W.run ?_
 refine W.pc0R c1 rfl ⟨_,0,rfl⟩ ?_
 rintro r ⟨k,rfl⟩
 refine ⟨_,rfl,?_⟩
 refine W.run ?_
 refine W.refR (k60 Y H id _ ver nq l k h (by omega) hl) ⟨.tup [],_,_,⟨rfl,Nat.le_refl _⟩,Nat.le_refl _,fun j hj h0=>?_⟩ ?_
 ·have h0':H j = none:=h0
  show H.put id _ j = none
  rw [put_ne (fun e=>by rw [e,h] at h0';cases h0')];exact h0'
 ·rintro r H' t ⟨rfl,ht⟩ - -
  refine W.run ?_
  exact W.retRn rfl (HS.refl _) ⟨rfl,by dsimp only;omega⟩
def expF:Nat→Nat→Nat→Nat
 | 0,_,_=>0
 | f+1,n,p=>if n % p = 0 then expF f (n / p) p+1 else 0
def facF:Nat→Nat→Nat→List (Nat × Nat)
 | 0,_,n=>if 1 < n then [(n,1)] else []
 | f+1,p,n=>if p * p≤n then (if n % p = 0 then (p,expF n n p)::facF f (p+1) (stripN n n p) else facF f (p+1) n) else if 1 < n then [(n,1)] else []
theorem facF_fst:∀ (f p n:Nat),(facF f p n).map Prod.fst = primesF f p n
 | 0,p,n=>by unfold facF primesF;split <;> rfl
 | f+1,p,n=>by
  unfold facF primesF
  split
  ·split
   ·rw [List.map_cons,facF_fst]
   ·rw [facF_fst]
  ·split <;> rfl
def facL (n:Nat):List (Nat × Nat):=facF n 2 n
theorem facL_fst (n:Nat):(facL n).map Prod.fst = primesL n:=facF_fst _ _ _
theorem stripN_step {f n p:Nat} (h:n % p = 0):stripN (f+1) n p = stripN f (n / p) p:=by rw [stripN,if_pos h]
theorem stripN_end {f n p:Nat} (h:¬ n % p = 0):stripN f n p = n:=by
 cases f with
 | zero=>rfl
 | succ f=>rw [stripN,if_neg h]
theorem expF_step {f n p:Nat} (h:n % p = 0):expF (f+1) n p = expF f (n / p) p+1:=by rw [expF,if_pos h]
theorem expF_end {f n p:Nat} (h:¬ n % p = 0):expF f n p = 0:=by
 cases f with
 | zero=>rfl
 | succ f=>rw [expF,if_neg h]
theorem facF_a {f p n:Nat} (h:p * p≤n) (hz:n % p = 0):facF (f+1) p n = (p,expF n n p)::facF f (p+1) (stripN n n p):=by rw [facF,if_pos h,if_pos hz]
theorem facF_b {f p n:Nat} (h:p * p≤n) (hz:¬ n % p = 0):facF (f+1) p n = facF f (p+1) n:=by rw [facF,if_pos h,if_neg hz]
theorem facF_c {f p n:Nat} (h:¬ p * p≤n):facF f p n = if 1 < n then [(n,1)] else []:=by
 cases f with
 | zero=>rfl
 | succ f=>rw [facF,if_neg h]
def facV (n:Nat):List (List V):=(facL n).map fun q=>[.int .i64 (q.1:Int),.int .i64 (q.2:Int)]
theorem facV_at {n i:Nat} {q:Nat × Nat} {r:List (Nat × Nat)} {l:List (Nat × Nat)} (h:facL n = l++q::r) (hl:l.length = i):(facV n)[i]? = some [.int .i64 (q.1:Int),.int .i64 (q.2:Int)]:=by
 unfold facV
 rw [h,List.map_append,List.getElem?_append_right (by rw [List.length_map];omega),List.length_map,hl,Nat.sub_self];rfl
theorem k47 (n:Int):PureC Tryz.prog 47 [.int .i64 n] (fun r=>r = .clo (.func 65) [] [.fp [.int .i64 n] 0]):=by
 refine pureC_of_wp .x mixed ok47 rfl ?_
 unfold c47
 dsimp only [argE]
 refine W.run ?_
 rfl
set_option maxRecDepth 10000 in
set_option maxHeartbeats 2000000 in
theorem it65 (n:Int) (hn:n≠0∧-1000000≤n∧n≤1000000):Iter Tryz.prog 65 [] [.fp [.int .i64 n] 0] (facV n.natAbs):=by
 refine iter_of_wp (c:=c65) (rs:=[]) mixed ok65 rfl ?_
 intro Y o y H top I D hI hD hy h0
 have c1:=k66 n (by omega)
 obtain ⟨N,hN⟩:∃ N,N = n.natAbs:=⟨_,rfl⟩
 have hNb:0 < N∧N≤1000000:=by omega
 rw [← hN] at c1 hy ⊢
 unfold c65
 dsimp only [argE,List.nil_append,List.cons_append]
 refine W.run ?_
 refine W.loop (fun z:Nat × Nat × List (Nat × Nat) × Hp × Nat=>⟨[(0,.yld o),(3,.int .i64 (z.2.1:Int)),(4,.int .i64 (z.1:Int))],z.2.2.2.1,z.2.2.2.2⟩)
  (fun z=>(2≤z.1∧z.1≤1001)∧(0 < z.2.1∧z.2.1≤N)∧(∃ f,N+2≤f+z.1∧facL N = z.2.2.1++facF f z.1 z.2.1)∧I z.2.2.1.length z.2.2.2.1 z.2.2.2.2) (fun z=>N+1010 - z.1) (2,N,[],H,_) ⟨by dsimp only;omega,by dsimp only;omega,⟨N,by dsimp only;omega,rfl⟩,hI _ _ _ _ h0 (by dsimp only;omega)⟩ ?_ rfl (HS.refl _) rfl
 rintro ⟨p,m,l,H1,nx⟩ ⟨hp,hm,⟨f,hf,hL⟩,hI1⟩
 dsimp only at hp hm hf hL hI1 ⊢
 have hpp:((p * p:Nat):Int) = (p:Int) * p:=Int.natCast_mul _ _
 have hmp:((m % p:Nat):Int) = (m:Int) % p:=Int.natCast_emod _ _
 have hpb:0≤(p:Int) * p∧(p:Int) * p≤1001 * 1001:=by
  have:p * p≤1001 * 1001:=Nat.mul_le_mul hp.2 hp.2
  omega
 by_cases hs:p * p≤m
 ·have hp3:p < 1001:=by
   refine Nat.lt_of_not_le fun h=>?_
   have:1001 * 1001≤p * p:=Nat.mul_le_mul h h
   omega
  obtain ⟨f,rfl⟩:∃ g,f = g+1:=⟨f - 1,by
   have:p * 1≤p * p:=Nat.mul_le_mul_left p (by omega)
   omega⟩
  refine W.run ?_
  refine W.lp (fun z:Nat × Nat × Nat=>[(0,.yld o),(3,.int .i64 (z.2.1:Int)),(4,.int .i64 (p:Int)),(5,.int .i64 (z.2.2:Int))]) (fun _=>H1) (fun z=>z.2.1≤z.1∧0 < z.2.1∧z.2.1≤N∧z.2.2+z.2.1≤N∧stripN m m p = stripN z.1 z.2.1 p∧expF m m p = z.2.2+expF z.1 z.2.1 p) (fun z=>z.1) (m,m,0) rfl (HS.refl _) ⟨by dsimp only;omega,by dsimp only;omega,by dsimp only;omega,by dsimp only;omega,rfl,by dsimp only;omega⟩ ?_
  rintro ⟨g,k,e⟩ n2 ⟨hk1,hk2,hk3,hke,hst,hex⟩ hn2
  dsimp only at hk1 hk2 hk3 hke hst hex ⊢
  have hkp:((k % p:Nat):Int) = (k:Int) % p:=Int.natCast_emod _ _
  by_cases hkz:k % p = 0
  ·obtain ⟨g, rfl⟩ : ∃ j, g = j + 1 := ⟨g - 1, by omega⟩
   rw [stripN_step hkz] at hst
   rw [expF_step hkz] at hex
   have h1:=div_lt_self2 hk2 hp.1
   have h2:0 < k / p:=Nat.div_pos (Nat.le_of_dvd hk2 (Nat.dvd_of_mod_eq_zero hkz)) (by omega)
   refine W.run ?_
   exact W.kl (g,k / p,e+1) (by rw [← Int.natCast_ediv];rfl) (HS.refl _) (by omega) ⟨by dsimp only;omega,h2,by dsimp only;omega,by dsimp only;omega,hst,by dsimp only;omega⟩ (by dsimp only;omega)
  ·rw [stripN_end hkz] at hst
   rw [expF_end hkz,Nat.add_zero] at hex
   have hez:m % p = 0↔0 < e:=by
    constructor
    ·intro hz
     obtain ⟨m',rfl⟩:∃ j,m = j+1:=⟨m - 1,by omega⟩
     rw [← hex,expF_step hz];omega
    ·intro he
     refine Classical.byContradiction fun hz=>?_
     rw [expF_end hz] at hex;omega
   by_cases he:0 < e
   ·rw [facF_a hs (hez.2 he),hst,hex] at hL
    have hit:=facV_at hL rfl
    refine W.run ?_
    refine W.yl2 (Ys.put_same _ _ _) (hy _ _ H1 _ hit (hI _ _ _ _ hI1 (by omega))) ?_
    rintro v H2 t ⟨H3,hs3,⟨rfl,h3⟩ | ⟨rfl,h3⟩⟩ ht
    ·refine W.run ?_
     refine W.kl0 H3 hs3 ⟨(p+1,k,l++[(p,e)],H3,_),⟨by dsimp only;omega,by dsimp only;omega,⟨f,by dsimp only;omega,by rw [hL,List.append_assoc];rfl⟩,?_⟩,rfl,by dsimp only;omega⟩ Nat.zero_lt_one
     rw [List.length_append]
     exact hI _ _ _ _ h3 (by dsimp only;omega)
    ·refine W.run ?_
     exact W.retR rfl hs3 (.inr (hD _ _ _ h3 (by dsimp only;omega)))
   ·rw [facF_b hs (fun h=>he (hez.1 h))] at hL
    have hkm:k = m:=by rw [← hst,stripN_end (fun h=>he (hez.1 h))]
    subst hkm
    refine W.run ?_
    exact W.kl0 H1 (HS.refl _) ⟨(p+1,k,l,H1,_),⟨by dsimp only;omega,hm,⟨f,by dsimp only;omega,hL⟩,hI _ _ _ _ hI1 (by dsimp only;omega)⟩,rfl,by dsimp only;omega⟩ Nat.zero_lt_one
 ·rw [facF_c hs] at hL
  by_cases h1:1 < m
  ·rw [if_pos h1] at hL
   have hit:=facV_at hL rfl
   refine W.run ?_
   refine W.yl2 (Ys.put_same _ _ _) (hy _ _ H1 _ hit (hI _ _ _ _ hI1 (by omega))) ?_
   rintro v H2 t ⟨H3,hs3,⟨rfl,h3⟩ | ⟨rfl,h3⟩⟩ ht
   ·refine W.run ?_
    refine W.retRn rfl hs3 (.inl ?_)
    rw [show (facV N).length = l.length+1 by unfold facV;rw [List.length_map,hL];simp]
    exact hI _ _ _ _ h3 (by dsimp only;omega)
   ·refine W.run ?_
    exact W.retRn rfl hs3 (.inr (hD _ _ _ h3 (by dsimp only;omega)))
  ·rw [if_neg h1,List.append_nil] at hL
   refine W.run ?_
   refine W.retRn rfl (HS.refl _) (.inl ?_)
   rw [show (facV N).length = l.length by unfold facV;rw [List.length_map,hL]]
   exact hI _ _ _ _ hI1 (by dsimp only;omega)
theorem facV_two {n:Nat}:∀ vs∈facV n,vs.length = 2:=fun vs h=>by
 obtain ⟨q,_,rfl⟩:=List.mem_map.1 h;rfl
set_option maxRecDepth 10000 in
theorem k30 (n:Int) (h:2≤n∧n≤1000000):PureC Tryz.prog 30 [.int .i64 n] (fun r=>r = .bool (primeB n)):=by
 obtain ⟨N,rfl⟩:∃ N:Nat,n = N:=⟨n.toNat,by omega⟩
 obtain ⟨p,ps,hps,hpn⟩:=first_prime (n:=N) (by omega)
 have hf:=facL_fst N
 rw [hps] at hf
 obtain ⟨e,rest,hL⟩:∃ e rest,facL N = (p,e)::rest:=by
  cases hL:facL N with
  | nil=>rw [hL] at hf;cases hf
  | cons q rest =>
   rw [hL,List.map_cons] at hf
   obtain ⟨q1,q2⟩:=q
   have:=(List.cons.inj hf).1
   dsimp only at this
   exact ⟨q2,rest,by rw [this]⟩
 have hit:Iter Tryz.prog 65 [] [.fp [.int .i64 (N:Int)] 0] (facV N):=it65 (N:Int) (by omega)
 have h0:(facV N)[0]? = some [.int .i64 (p:Int),.int .i64 (e:Int)]:=facV_at (l:=[]) hL rfl
 have hpr:primeB (N:Int) = decide ((p:Int) = N):=by
  by_cases hpN:p = N
  ·rw [primeB_of (hpn.1 hpN).i,decide_eq_true (by omega)]
  ·rw [primeB_not (fun hc=>hpN (hpn.2 hc.n)),decide_eq_false (by omega)]
 have c1:=k47 (N:Int)
 rw [hpr]
 clear hpr hpn
 refine pureC_of_wp .x mixed ok30 rfl ?_
 unfold c30
 dsimp only [argE]
 refine W.run ?_
 refine W.rfi2 hit YEx.none rfl facV_two (fun _:Unit=>(Hp.put (fun _=>none) 0 { cells:=[.int .i64 (N:Int)],sz:=1 }).put 8 { cells:=[.bool false],sz:=1 }) (fun i _ _=>i = 0) (fun i x n n' h _=>h) () (HS.p (HS.p (HS.emp _))) rfl (fun i x m _=>by repeat rw [put_ne (by omega)]) ?_ ?_
 ·rintro i vs _ m hi rfl hm
  rw [h0] at hi
  obtain rfl:=(Option.some.inj hi).symm
  dsimp only [putL]
  refine W.run ?_
  refine W.kasg2 (by simp (disch:=omega) only [put_same,put_ne,ne_eq,go_sem]) rfl ?_
  refine W.run ?_
  refine W.kitrR2 ((Hp.put (fun _=>none) 0 { cells:=[.int .i64 (N:Int)],sz:=1 }).put 8 { cells:=[.bool (decide ((p:Int) = N))],sz:=1 }) (HS.refl _) (by repeat rw [put_ne (by omega)]) fun k hk=>?_
  refine W.run ?_
  rfl
 ·rintro _ m hI hm
  rw [show (facV N).length = rest.length+1 by unfold facV;rw [List.length_map,hL];rfl] at hI
  cases hI
noncomputable def symR (a b p:Int):Int × Int:=if rngE a b≠0 then (0,rngE a b) else if plcB p then (symM a b p,0) else (0,1)
set_option maxRecDepth 10000 in
theorem k6 (a b p:Int):PureC Tryz.prog 6 [.int .i64 a,.int .i64 b,.int .i64 p] (fun r=>r = .tup [.int .i64 (symR a b p).1,.int .i64 (symR a b p).2]):=by
 have c1:=k29 a b
 refine pureC_of_wp (.l [.x,.x]) mixed ok6 rfl ?_
 unfold c6 symR
 dsimp only [argE]
 by_cases hE:rngE a b = 0
 ·rw [if_neg (by omega)]
  obtain ⟨ha,hb⟩:=rngE_0 hE
  rw [hE] at c1
  clear hE
  unfold plcB
  by_cases h1:p = -1
  ·have c2:=k31 a b p ha hb (.inl h1)
   rw [decide_eq_true h1,Bool.true_or,if_pos rfl]
   refine W.run ?_
   rfl
  ·rw [decide_eq_false h1,Bool.false_or]
   by_cases h2:p < 2
   ·have : primeB p = false := primeB_not fun h => by have := h.1; omega
    rw [this,Bool.and_false,if_neg (by simp)]
    refine W.run ?_
    rfl
   ·by_cases h3:1000000 < p
    ·rw [decide_eq_false (by omega), Bool.false_and, if_neg (by simp)]
     refine W.run ?_
     rfl
    ·have c2 := k31 a b p ha hb (.inr (by omega))
     have c3:=k30 p (by omega)
     rw [decide_eq_true (by omega),Bool.true_and]
     cases hp:primeB p
     ·rw [hp] at c3
      rw [if_neg (by simp)]
      refine W.run ?_
      rfl
     ·rw [hp] at c3
      rw [if_pos rfl]
      refine W.run ?_
      rfl
 ·rw [if_pos hE]
  refine W.run ?_
  rfl
theorem sgn_even (n:Int):sgnI n = if n % 2 = 0 then 1 else -1:=rfl
set_option maxRecDepth 10000 in
set_option maxHeartbeats 2000000 in
theorem k12 (a b p:Int) (ha:a≠0∧-1000000≤a∧a≤1000000) (hb:b≠0∧-1000000≤b∧b≤1000000) (hp:p = -1∨2≤p∧p≤1000000):PureC Tryz.prog 12 [.int .i64 a,.int .i64 b,.int .i64 p] (fun r=>r = .int .i64 (symM a b p)):=by
 refine pureC_of_wp .x mixed ok12 rfl ?_
 unfold c12 symM
 dsimp only [argE]
 by_cases h1:p = -1
 ·rw [if_pos h1]
  by_cases h2:a < 0
  ·by_cases h3:b < 0
   ·refine W.run ?_
    rw [if_pos ⟨h2,h3⟩]
   ·refine W.run ?_
    rw [if_neg (by omega)]
  ·refine W.run ?_
   rw [if_neg (by omega)]
 have hp2:2≤p∧p≤1000000:=by omega
 rw [if_neg h1]
 have c1:=k34 a p (by omega) (by omega)
 have c2:=k34 b p (by omega) (by omega)
 obtain ⟨hi,hu⟩:=spl_ok ha hp2.1
 obtain ⟨hj,hw⟩:=spl_ok hb hp2.1
 generalize (spl a p).1 = i at c1 hi ⊢
 generalize (spl a p).2 = u at c1 hu ⊢
 generalize (spl b p).1 = j at c2 hj ⊢
 generalize (spl b p).2 = w at c2 hw ⊢
 unfold symP
 by_cases h2:p = 2
 ·rw [if_pos h2,sgnI_add,sgnI_add]
  have q1:=sq_pos' hu
  have q2:=sq_pos' hw
  have q3:=half_bd hu.2
  have q4:=half_bd hw.2
  have q5:=mul_abs_bd q3 q4
  have q6:=mul_abs_bd (a:=i) (b:=(w * w - 1) / 8) (A:=1000000) (B:=125000000000) (by omega) (by omega)
  have q7:=mul_abs_bd (a:=j) (b:=(u * u - 1) / 8) (A:=1000000) (B:=125000000000) (by omega) (by omega)
  have e1:=k35 ((u - 1).tdiv 2 * (w - 1).tdiv 2) (by omega)
  have e2:=k35 (i * ((w * w - 1) / 8)) (by omega)
  have e3:=k35 (j * ((u * u - 1) / 8)) (by omega)
  rw [sgn_even,sgn_even,sgn_even]
  by_cases o1:((u - 1).tdiv 2 * (w - 1).tdiv 2) % 2 = 0 <;> by_cases o2:(i * ((w * w - 1) / 8)) % 2 = 0 <;> by_cases o3:(j * ((u * u - 1) / 8)) % 2 = 0
  all_goals
   refine W.run ?_
   simp [o1,o2,o3]
 ·rw [if_neg h2]
  have q1:=mul_abs_bd (a:=i) (b:=j) (A:=1000000) (B:=1000000) (by omega) (by omega)
  have q2:=mul_abs_bd (a:=i * j) (b:=(p - 1) / 2) (A:=1000000 * 1000000) (B:=500000) q1 (by omega)
  have e1:=k35 (i * j * ((p - 1) / 2)) (by omega)
  have e2:=k35 j (by omega)
  have e3:=k35 i (by omega)
  have c4:=k36 u p (by omega) (by omega)
  have c5:=k36 w p (by omega) (by omega)
  have s2:=chI_pm u p
  have s3:=chI_pm w p
  generalize chI u p = U at c4 s2 ⊢
  generalize chI w p = W' at c5 s3 ⊢
  have m2:=mul_abs_bd (a:=U) (b:=W') (A:=1) (B:=1) (by omega) (by omega)
  have m3:=mul_abs_bd (a:=-1 * U) (b:=W') (A:=1) (B:=1) (by omega) (by omega)
  have m4:-1≤U∧U≤1:=by omega
  have m5:-1≤W'∧W'≤1:=by omega
  clear s2 s3
  have p2:(if j % 2 = 1 then U else 1) = if j % 2 = 0 then 1 else U:=by split <;> split <;> first | rfl | omega
  have p3:(if i % 2 = 1 then W' else 1) = if i % 2 = 0 then 1 else W':=by split <;> split <;> first | rfl | omega
  rw [sgn_even,p2,p3]
  clear p2 p3
  by_cases o1:(i * j * ((p - 1) / 2)) % 2 = 0 <;> by_cases o2:j % 2 = 0 <;> by_cases o3:i % 2 = 0
  all_goals
   refine W.run ?_
   first | (simp [o1,o2,o3];done) | (simp [o1,o2,o3];exact wrap_i64 (by omega))
theorem eq_take {α:Type} {A B:List α} {i:Nat} (ha:i < A.length) (hb:i < B.length) (h:A.take i = B.take i):A.take (i+1) = B.take (i+1)↔A[i] = B[i]:=by
 rw [← List.take_append_getElem ha,← List.take_append_getElem hb,h]
 constructor
 ·intro e
  have:=List.append_cancel_left e
  exact (List.cons.inj this).1
 ·intro e;rw [e]
set_option maxRecDepth 10000 in
theorem k9 (A B:List Int) (hA:A.length < 2 ^ 40) (hB:B.length < 2 ^ 40):PureC Tryz.prog 9 [.sl (A.map (V.int .i64)) A.length,.sl (B.map (V.int .i64)) B.length] (fun r=>r = .bool (decide (A = B))):=by
 refine pureC_of_wp .x mixed ok9 rfl ?_
 unfold c9
 dsimp only [argE]
 by_cases hl:A.length = B.length
 ·refine W.run ?_
  refine W.lp (fun i:Nat=>[(0,.sl (A.map (V.int .i64)) A.length),(1,.sl (B.map (V.int .i64)) B.length),(5,.int .i64 (i:Int))]) (fun _ _=>none) (fun i=>i≤A.length∧A.take i = B.take i) (fun i=>A.length - i) 0 rfl (HS.refl _) ⟨by omega,by simp⟩ ?_
  rintro i nx ⟨hi,hI⟩ hnx
  by_cases hil:i < A.length
  ·have ht := eq_take hil (by omega : i < B.length) hI
   by_cases he:A[i] = B[i]
   ·have h2:=ht.2 he
    clear ht hI
    refine W.run ?_
    exact W.kl (i+1) rfl (HS.refl _) (by omega) ⟨by omega,h2⟩ (by omega)
   ·have hne : A ≠ B := fun e => by subst e; exact he rfl
    rw [decide_eq_false hne]
    clear ht hI hne
    refine W.run ?_
    rfl
  ·have hE : A = B := by rwa [List.take_of_length_le (by omega), List.take_of_length_le (by omega)] at hI
   rw [decide_eq_true hE]
   clear hI hE
   refine W.run ?_
   rfl
 ·rw [decide_eq_false (fun e => hl (by rw [e]))]
  refine W.run ?_
  rfl
end Go.Dp
