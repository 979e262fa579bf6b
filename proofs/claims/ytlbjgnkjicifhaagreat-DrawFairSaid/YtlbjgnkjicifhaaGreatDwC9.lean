import Derived.Test.YtlbjgnkjicifhaaGreatDwE6
import Derived.Test.YtlbjgnkjicifhaaGreatDsM10
namespace Go.Dp
open Go.RowKit Go.Proofs
attribute [local irreducible] wp wpOps wpOp1 CallW CallT kSeq kBlk kLoop kReg retP retR kAsg kRound kRf kCut kItr
set_option linter.unusedVariables false
set_option linter.unusedSimpArgs false
set_option maxRecDepth 10000 in
set_option maxHeartbeats 1000000 in
theorem k98 (P g:Int) (hp:PrimeI P) (hP:3≤P∧P < 2 ^ 31) (X Y:List Int) (hl:X.length = Y.length) (h0:X.length≠0) (hX:X.length≤200) (hrX:InF P X) (hrY:InF P Y) (hn:X.Nodup):PureC Tryz.prog 98 [fieldV P g,slI X,slI Y] (fun r=>r = .tup [slI (newtF P X Y [] [1]),.int .i64 0]):=by
 have c1:=k146 P g X (by omega) hrX
 have c2:=k146 P g Y (by omega) hrY
 have c3:=k147 X (by omega) hn
 have c4:PureC Tryz.prog 148 [fieldV P g,slI X,slI Y] (fun r=>r = slI (newtF P X Y [] [1])):=(k148 P g hp hP X Y hl hX hrX hrY hn).mono fun r h=>h.elim id fun h=>absurd (by rw [h.1];rfl) h0
 refine pureC_of_wp (.l [.x,.x]) mixed ok98 rfl ?_
 unfold c98
 dsimp only [argE,fieldV,fldC] at c1 c2 c4 ⊢
 refine W.run ?_
 rfl
set_option maxRecDepth 10000 in
theorem k176 (A:List Int) (n:Nat) (hn:n = A.length) (x:Int) (hA:A.length < 2 ^ 40):PureC Tryz.prog 176 [.sl (A.map (V.int .i64)) n,.int .i64 x] (fun r=>r = .int .i64 (idxI (fun a=>decide (a = x)) A 0)):=by
 subst hn
 refine pureC_of_wp .x mixed ok176 rfl ?_
 unfold c176
 dsimp only [argE]
 refine W.run ?_
 refine W.lp (fun i:Nat=>[(0,slI A),(1,.int .i64 x),(7,.int .i64 (A.length:Int)),(8,.int .i64 (i:Int))]) (fun _ _=>none) (fun i=>i≤A.length∧idxI (fun a=>decide (a = x)) A 0 = idxI (fun a=>decide (a = x)) (A.drop i) i) (fun i=>A.length - i) 0 rfl (HS.refl _) ⟨by omega,rfl⟩ ?_
 rintro i nx ⟨h1,h2⟩ hnx
 by_cases hi:i < A.length
 ·rw [idxI_drop hi] at h2
  by_cases he:A[i] = x
  ·rw [decide_eq_true he,if_pos rfl] at h2
   refine W.run ?_
   rw [h2]
  ·rw [decide_eq_false he] at h2
   refine W.run ?_
   exact W.kl (i+1) rfl (HS.refl _) (by omega) ⟨by omega,by simpa using h2⟩ (by omega)
 ·have hi2 : i = A.length := by omega
  subst hi2
  rw [List.drop_length] at h2
  refine W.run ?_
  rw [h2];rfl
theorem k138 (A:List Int) (n:Nat) (hn:n = A.length) (x:Int) (hA:A.length < 2 ^ 40):PureC Tryz.prog 138 [.sl (A.map (V.int .i64)) n,.int .i64 x] (fun r=>r = .bool (decide (x∈A))):=by
 have c1:=k176 A n hn x hA
 have h:=(idxI_any (q:=fun a=>decide (a = x)) A 0).1
 have h2:A.any (fun a=>decide (a = x)) = decide (x∈A):=by
  rw [Bool.eq_iff_iff];simp
 rw [h2] at h
 refine pureC_of_wp .x mixed ok138 rfl ?_
 unfold c138
 dsimp only [argE]
 by_cases hx:x∈A
 ·have:0≤idxI (fun a=>decide (a = x)) A 0:=h.2 (decide_eq_true hx)
  clear h
  refine W.run ?_
  rw [decide_eq_true hx]
 ·have:¬ 0≤idxI (fun a=>decide (a = x)) A 0:=fun e=>hx (of_decide_eq_true (h.1 e))
  clear h
  refine W.run ?_
  rw [decide_eq_false hx]
theorem k138n (x:Int):PureC Tryz.prog 138 [.nils,.int .i64 x] (fun r=>r = .bool (decide (x∈([]:List Int)))) :=
 (k138 [] 0 rfl x (by simp)).weak (.cons .nils (.cons (.refl _) .nil))
def NormI (l:List Int):Prop:=∀ h:0 < l.length,l[l.length - 1]≠0
theorem trimI_norm:∀ l,NormI (trimI l)
 | []=>fun h=>by simp [trimI] at h
 | a::l=>by
  have ih:=trimI_norm l
  unfold trimI
  split
  ·split
   ·intro h;simp at h
   ·intro h;simpa
  ·rename_i b m e
   rw [e] at ih
   intro h
   have:=ih (by simp)
   simpa using this
theorem newtF_norm {P:Int}:∀ (xs ys out zero:List Int),NormI out→NormI (newtF P xs ys out zero)
 | [],_,_,_,h=>by rw [newtF];exact h;simp
 | x::xs,[],_,_,h=>by rw [newtF];exact h;simp
 | x::xs,y::ys,out,zero,h=>by rw [newtF];exact newtF_norm xs ys _ _ (trimI_norm _)
theorem k177 (P g:Int) (A:List Int) (hA:A.length≤200) (hr:InF P A) (hn:NormI A):PureC Tryz.prog 177 [fieldV P g,slI A] (fun r=>r = .int .i64 0):=by
 have c1:=k146 P g A (by omega) hr
 refine pureC_of_wp .x mixed ok177 rfl ?_
 unfold c177
 dsimp only [argE]
 by_cases h0:0 < A.length
 ·have e : ((A.length : Int) - 1).toNat = A.length - 1 := by omega
  have h1 : A[((A.length : Int) - 1).toNat]'(by omega) ≠ 0 := by
   have:=hn h0
   simpa only [e] using this
  refine W.run ?_
  rfl
 ·refine W.run ?_
  rfl
theorem k179 (P g x:Int) (hP:3≤P∧P < 2 ^ 31) (hx:0≤x∧x < P):PureC Tryz.prog 179 [fieldV P g,.int .i64 x] (fun r=>r = .int .i64 x):=by
 have e1:x % P = x:=Int.emod_eq_of_lt hx.1 hx.2
 have e2:(x % P+P) % P = x:=by rw [e1,Int.add_emod_right,e1]
 have e3:0≤x % P∧x % P < P:=by omega
 refine pureC_of_wp .x mixed ok179 rfl ?_
 unfold c179
 dsimp only [argE,fieldV,fldC]
 refine W.run ?_
 rw [e2]
theorem k139 (P g x:Int) (hP:3≤P∧P < 2 ^ 31) (A:List Int) (hA:A.length≤200) (hr:InF P A) (hn:NormI A) (hx:0≤x∧x < P):PureC Tryz.prog 139 [fieldV P g,slI A,.int .i64 x] (fun r=>r = .tup [.int .i64 (valM P x A),.int .i64 0]):=by
 have c1:=k177 P g A hA hr hn
 have c2:=k179 P g x hP hx
 have c3:=k178 P x g hP A (by omega) hr hx (slI A) (.inl rfl)
 refine pureC_of_wp (.l [.x,.x]) mixed ok139 rfl ?_
 unfold c139
 dsimp only [argE]
 refine W.run ?_
 rfl
end Go.Dp
