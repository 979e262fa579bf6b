import Derived.Test.YtgbjppfikncpcaaGreatDvR2
import Derived.Test.YtgbjppfikncpcaaGreatDvTP
import Derived.Test.YtgbjppfikncpcaaGreatDpWk
import Derived.Test.YtgbjppfikncpcaaGreatDsF4
namespace Go.Dp
open Go.RowKit Go.Proofs
attribute [local irreducible] wp wpOps wpOp1 CallW CallT kSeq kBlk kLoop kReg retP retR kAsg kRound kRf kCut kItr kItr2
set_option linter.unusedVariables false
set_option linter.unusedSimpArgs false
def eV (id:Nat) (A:List Int):V:=if id = 0 then .nils else .ref id (A.length - 1) 0 A.length
def eO (A:List Int):Ob:={ cells:=A.map (V.int .i64),sz:=1,ver:=A.length - 1 }
def HpE0 (B:Hp) (E:Nat→Nat) (F:Nat→List Int):Nat→Hp
 | 0=>B
 | x+1=>if E x = 0 then HpE0 B E F x else (HpE0 B E F x).put (E x) (eO (F x))
def HpE (B:Hp) (E:Nat→Nat) (F:Nat→List Int) (v lo n:Nat):Hp:=HpE0 B E F v
def okE (E:Nat→Nat) (v lo n:Nat):Prop:=(∀ x,x < v→E x≠0→lo < E x∧E x < n)∧∀ x y,x < v→y < v→E x≠0→E x = E y→x = y
def updE {α:Type} (F:Nat→α) (x:Nat) (A:α):Nat→α:=fun y=>if y = x then A else F y
theorem HpE0_at {B:Hp} {E:Nat→Nat} {F:Nat→List Int} {i:Nat}:∀ {v:Nat},(∀ x,x < v→E x≠0→E x≠i)→HpE0 B E F v i = B i
 | 0,_=>rfl
 | v+1,h=>by
  unfold HpE0
  split
  ·exact HpE0_at fun x hx=>h x (by omega)
  ·rename_i he
   rw [put_ne (Ne.symm (h v (by omega) he)),HpE0_at fun x hx=>h x (by omega)]
theorem HpE0_get {B:Hp} {E:Nat→Nat} {F:Nat→List Int} {x:Nat}:∀ {v:Nat},(∀ y,y < v→E y = E x→y = x)→x < v→E x≠0→HpE0 B E F v (E x) = some (eO (F x))
 | v+1,h,hx,h0=>by
  unfold HpE0
  by_cases e:x = v
  ·subst e
   rw [if_neg h0,put_same]
  ·have ih := HpE0_get (B := B) (F := F) (v := v) (fun y hy => h y (by omega)) (by omega) h0
   split
   ·exact ih
   ·rw [put_ne (fun he=>e (h v (by omega) he.symm).symm),ih]
section
variable {B:Hp} {E:Nat→Nat} {F:Nat→List Int} {v lo n i x:Nat} {ob:Ob}
@[go_sem] theorem HpE_at (h:okE E v lo n) (hi:i≤lo∨n≤i):HpE B E F v lo n i = B i :=
 HpE0_at fun x hx h0 e=>by have:=h.1 x hx h0;omega
theorem HpE_get (h:okE E v lo n) (hx:x < v) (h0:E x≠0):HpE B E F v lo n (E x) = some (eO (F x)) :=
 HpE0_get (fun y hy e=>(h.2 x y hx hy h0 e.symm).symm) hx h0
@[go_sem] theorem HpE_in (h:okE E v lo n) (hx:x < v) (h0:¬ E x = 0):HpE B E F v lo n (E x) = some { cells:=(F x).map (V.int .i64),sz:=1,ver:=(F x).length - 1 }:=HpE_get h hx h0
theorem HpE_none (h:okE E v lo n) (hi:∀ x,x < v→E x≠0→E x≠i):HpE B E F v lo n i = B i:=HpE0_at hi
theorem HpE_ext {B':Hp} {E':Nat→Nat} {F':Nat→List Int} {n':Nat} {H:Hp} (h':okE E' v lo n') (h1:∀ x,x < v→E' x≠0→H (E' x) = some (eO (F' x))) (h2:∀ i,(∀ x,x < v→E' x≠0→E' x≠i)→H i = B' i):H = HpE B' E' F' v lo n':=by
 funext i
 by_cases hx:∃ x,x < v∧E' x≠0∧E' x = i
 ·obtain ⟨x,hx,h0,rfl⟩:=hx
  rw [h1 x hx h0,HpE_get h' hx h0]
 ·have hn:∀ x,x < v→E' x≠0→E' x≠i:=fun x hx' h0 e=>hx ⟨x,hx',h0,e⟩
  rw [h2 i hn,HpE_none h' hn]
@[go_sem] theorem HpE_put (h:okE E v lo n) (hi:i≤lo∨n≤i):(HpE B E F v lo n).put i ob = HpE (B.put i ob) E F v lo n:=by
 refine HpE_ext h (fun x hx h0=>?_) fun j hj=>?_
 ·rw [put_ne (fun e=>by have:=h.1 x hx h0;omega),HpE_get h hx h0]
 ·by_cases e:j = i
  ·subst e;rw [put_same,put_same]
  ·rw [put_ne e,put_ne e,HpE_none h hj]
theorem HpE_old (h:okE E v lo n) (hx:x < v) (h0:E x≠0) {A:List Int}:(HpE B E F v lo n).put (E x) (eO A) = HpE B E (updE F x A) v lo n:=by
 refine HpE_ext h (fun y hy hy0=>?_) fun j hj=>?_
 ·by_cases e:y = x
  ·subst e;rw [put_same];unfold updE;rw [if_pos rfl]
  ·rw [put_ne (fun e2=>e (h.2 y x hy hx hy0 e2)),HpE_get h hy hy0];unfold updE;rw [if_neg e]
 ·rw [put_ne (fun e=>hj x hx h0 e.symm),HpE_none h hj]
theorem okE.upd (h:okE E v lo n) {id n':Nat} (hi:n≤id∧id < n') (hlo:lo < n):okE (updE E x id) v lo n':=by
 refine ⟨fun y hy h0=>?_,fun y z hy hz h0 e=>?_⟩
 ·unfold updE at h0 ⊢
  by_cases e:y = x
  ·rw [if_pos e];omega
  ·rw [if_neg e] at h0 ⊢
   have:=h.1 y hy h0;omega
 ·unfold updE at h0 e
  by_cases e1:y = x
  ·by_cases e2:z = x
   ·rw [e1,e2]
   ·rw [if_pos e1,if_neg e2] at e
    by_cases hz0:E z = 0
    ·omega
    ·have:=h.1 z hz hz0;omega
  ·rw [if_neg e1] at h0 e
   by_cases e2:z = x
   ·rw [if_pos e2] at e
    have:=h.1 y hy h0;omega
   ·rw [if_neg e2] at e
    exact h.2 y z hy hz h0 e
theorem HpE_new (h:okE E v lo n) (hx:x < v) (h0:E x = 0) {id n':Nat} (hi:n≤id∧id < n') (hlo:lo < n) (hB:B id = none) {A:List Int}:(HpE B E F v lo n).put id (eO A) = HpE B (updE E x id) (updE F x A) v lo n':=by
 refine HpE_ext (h.upd hi hlo) (fun y hy hy0=>?_) fun j hj=>?_
 ·unfold updE at hy0 ⊢
  by_cases e:y = x
  ·rw [if_pos e,if_pos e,put_same]
  ·rw [if_neg e] at hy0
   rw [if_neg e,if_neg e,put_ne (fun e2=>by have:=h.1 y hy hy0;omega),HpE_get h hy hy0]
 ·have hji : j ≠ id := fun e => hj x hx (by unfold updE; rw [if_pos rfl]; omega) (by unfold updE; rw [if_pos rfl]; exact e.symm)
  rw [put_ne hji,HpE_none h fun y hy hy0=>?_]
  have hyx:y≠x:=fun e=>hy0 (by rw [e];exact h0)
  have:=hj y hy (by unfold updE;rw [if_neg hyx];exact hy0)
  unfold updE at this
  rw [if_neg hyx] at this
  exact this
end
def outE (E:Nat→Nat) (F:Nat→List Int) (v:Nat):List V:=(List.range v).map fun x=>eV (E x) (F x)
theorem outE_len {E:Nat→Nat} {F:Nat→List Int} {v:Nat}:(outE E F v).length = v:=by unfold outE;simp
theorem outE_at {E:Nat→Nat} {F:Nat→List Int} {v x:Nat} (h:x < (outE E F v).length):(outE E F v)[x] = eV (E x) (F x):=by
 have hl:x < v:=by rw [outE_len] at h;exact h
 have e:(outE E F v)[x]? = some (eV (E x) (F x)):=by unfold outE;rw [List.getElem?_map,List.getElem?_range hl];rfl
 rw [List.getElem?_eq_getElem h] at e
 exact Option.some.inj e
theorem outE_set {E:Nat→Nat} {F:Nat→List Int} {v x id:Nat} {A:List Int}:(outE E F v).set x (eV id A) = outE (updE E x id) (updE F x A) v:=by
 unfold outE
 refine List.ext_getElem (by simp) fun i h1 h2=>?_
 rw [List.getElem_set]
 simp only [List.getElem_map,List.getElem_range]
 unfold updE
 by_cases e:x = i
 ·subst e;rw [if_pos rfl,if_pos rfl,if_pos rfl]
 ·rw [if_neg e,if_neg (Ne.symm e),if_neg (Ne.symm e)]
theorem updE_self {α:Type} {F:Nat→α} {x:Nat}:updE F x (F x) = F:=by
 funext y;unfold updE;split
 ·rename_i e;rw [e]
 ·rfl
def dualF (bs:List (List Int)) (b:List Int) (i j x:Nat):List Int:=dualK bs x i++if (x:Int)∈b.take j then [(i:Int)] else []
theorem dualF_step {bs:List (List Int)} {b:List Int} {i j:Nat} (hj:j < b.length) (hp:b.Pairwise (· < ·)) (hb:0≤b[j]) (x:Nat):dualF bs b i (j+1) x = updE (dualF bs b i j) b[j].toNat (dualF bs b i j b[j].toNat++[(i:Int)]) x:=by
 unfold updE dualF
 rw [← List.take_append_getElem hj]
 have hno:b[j] ∉ b.take j:=fun h=>by
  obtain ⟨k,hk,e⟩:=List.getElem_of_mem h
  rw [List.length_take] at hk
  rw [List.getElem_take] at e
  have:=List.pairwise_iff_getElem.1 hp k j (by omega) hj (by omega)
  omega
 by_cases e:x = b[j].toNat
 ·have ex : (x : Int) = b[j] := by omega
  rw [if_pos e,← e,ex,if_pos (List.mem_append_right _ (by simp)),if_neg hno,List.append_nil]
 ·rw [if_neg e]
  have ex:(x:Int)≠b[j]:=by omega
  by_cases hm:(x:Int)∈b.take j
  ·rw [if_pos (List.mem_append_left _ hm),if_pos hm]
  ·rw [if_neg (fun h=>by rcases List.mem_append.1 h with h | h;exact hm h;exact ex (by simpa using h)),if_neg hm]
theorem dualF_end {bs:List (List Int)} {i:Nat} (hi:i < bs.length) (x:Nat):dualF bs bs[i] i bs[i].length x = dualK bs x (i+1):=by
 unfold dualF
 rw [List.take_length,dualK_succ hi]
theorem dualF_0 {bs:List (List Int)} {b:List Int} {i:Nat} (x:Nat):dualF bs b i 0 x = dualK bs x i:=by unfold dualF;simp
theorem outE_0 {F:Nat→List Int} {v:Nat}:outE (fun _=>0) F v = zerosV [V.nils] v:=by
 unfold outE
 rw [zerosV_rep]
 exact (List.map_const' ..).trans (by rw [List.length_range])
theorem HpE_0 {B:Hp} {F:Nat→List Int} {lo n:Nat}:∀ {v:Nat},HpE B (fun _=>0) F v lo n = B
 | 0=>rfl
 | v+1=>by
  show HpE0 B (fun _=>0) F (v+1) = B
  unfold HpE0
  rw [if_pos rfl]
  exact HpE_0 (lo:=lo) (n:=n)
theorem okE.mono {E:Nat→Nat} {v lo n n':Nat} (h:okE E v lo n) (hn:n≤n'):okE E v lo n':=⟨fun x hx h0=>by have:=h.1 x hx h0;omega,h.2⟩
theorem HpE_HS {B B':Hp} {E:Nat→Nat} {F:Nat→List Int} {lo n:Nat} (h:HS B B'):∀ {v:Nat},HS (HpE0 B E F v) (HpE0 B' E F v)
 | 0=>h
 | v+1=>by
  unfold HpE0
  split
  ·exact HpE_HS (lo:=lo) (n:=n) h
  ·intro j x e
   have ih:=HpE_HS (lo:=lo) (n:=n) (E:=E) (F:=F) h (v:=v)
   simp only [Hp.put] at e ⊢
   split
   ·rename_i hc;rw [if_pos hc] at e;exact e
   ·rename_i hc;rw [if_neg hc] at e;exact ih j x e
theorem dualF_len {bs:List (List Int)} {b:List Int} {i j x:Nat}:(dualF bs b i j x).length≤i+1:=by
 unfold dualF
 rw [List.length_append]
 have:=dualK_len (bs:=bs) (x:=x) (k:=i)
 split <;> simp <;> omega
theorem mapS_eV {k:Nat} {E:Nat→Nat} {F:Nat→List Int}:∀ (xs:List Nat) (H:Hp),xs.Nodup→(∀ x∈xs,E x = 0↔F x = [])→(∀ x∈xs,∀ y∈xs,E x≠0→E x = E y→x = y)→(∀ x∈xs,E x≠0→H (E x) = some (eO (F x)))→∃ H',mapS (frz (k+1)) (xs.map fun x=>eV (E x) (F x)) H = some (xs.map (fun x=>if (F x).length = 0 then .nils else slI (F x)),H')
 | [],H,_,_,_,_=>⟨H,rfl⟩
 | x::xs,H,hn,h1,h2,h3=>by
  have hn':=List.nodup_cons.1 hn
  have hx1:=h1 x (by simp)
  by_cases h0:E x = 0
  ·obtain ⟨H', hH'⟩ := mapS_eV (k := k) (E := E) (F := F) xs H hn'.2 (fun y hy => h1 y (by simp [hy])) (fun y hy z hz => h2 y (by simp [hy]) z (by simp [hz])) (fun y hy => h3 y (by simp [hy]))
   refine ⟨H',?_⟩
   rw [List.map_cons,List.map_cons,mapS,hx1.1 h0]
   have e:frz (k+1) (eV (E x) []) H = some (.nils,H):=by unfold eV;rw [if_pos h0];rfl
   rw [e]
   simp only [Option.bind_some,hH',Option.map_some,List.length_nil,if_true]
  ·have hF:F x≠[]:=fun e=>h0 (hx1.2 e)
   have hF1:¬ (F x).length = 0:=fun e=>hF (List.length_eq_zero_iff.1 e)
   have hx3:=h3 x (by simp) h0
   have hmk:H.mark (E x) (0+(F x).length * 1) = H.put (E x) { eO (F x) with fz:=max (eO (F x)).fz (0+(F x).length * 1) }:=by unfold Hp.mark;rw [hx3]
   obtain ⟨H', hH'⟩ := mapS_eV (k := k) (E := E) (F := F) xs (H.mark (E x) (0 + (F x).length * 1)) hn'.2 (fun y hy => h1 y (by simp [hy])) (fun y hy z hz => h2 y (by simp [hy]) z (by simp [hz])) (fun y hy hy0 => by
    rw [hmk,put_ne fun e=>hn'.1 (by rw [← h2 y (by simp [hy]) x (by simp) hy0 e];exact hy)]
    exact h3 y (by simp [hy]) hy0)
   refine ⟨H',?_⟩
   have e:frz (k+1) (eV (E x) (F x)) H = some (slI (F x),H.mark (E x) (0+(F x).length * 1)):=by
    have hq:=frzRef_some (n:=k) (o:=E x) (ver:=(F x).length - 1) (off:=0) (len:=(F x).length) (H:=H) (ob:=eO (F x)) ⟨rfl,by simp [eO],rfl⟩
    unfold eV
    rw [if_neg h0,frz_ref,hx3,hq]
    simp only [eO,List.drop_zero,Nat.mul_one,Nat.zero_add]
    rw [List.take_of_length_le (by simp),mapS_int1]
    rfl
   rw [List.map_cons,List.map_cons,mapS,e,if_neg hF1]
   simp only [Option.bind_some,hH',Option.map_some]
theorem frz_E {k v n o:Nat} {E:Nat→Nat} {F:Nat→List Int} (h:okE E v o n) (h1:∀ x,x < v→(E x = 0↔F x = [])):∃ H',frz (k+2) (.ref o 0 0 v) (HpE (Hp.put (fun _=>none) o { cells:=outE E F v,sz:=1 }) E F v o n) = some (.sl ((List.range v).map fun x=>if (F x).length = 0 then .nils else slI (F x)) v,H'):=by
 obtain ⟨H',hH'⟩:=mapS_eV (k:=k) (E:=E) (F:=F) (List.range v) (HpE (Hp.put (fun _=>none) o { cells:=outE E F v,sz:=1 }) E F v o n) List.nodup_range (fun x hx=>h1 x (List.mem_range.1 hx)) (fun x hx y hy=>h.2 x y (List.mem_range.1 hx) (List.mem_range.1 hy)) (fun x hx h0=>HpE_get h (List.mem_range.1 hx) h0)
 refine ⟨H'.mark o (0+v * 1),?_⟩
 have e1:HpE (Hp.put (fun _=>none) o { cells:=outE E F v,sz:=1 }) E F v o n o = some { cells:=outE E F v,sz:=1 }:=by rw [HpE_at h (.inl (Nat.le_refl _)),put_same]
 have hq:=frzRef_some (n:=k+1) (o:=o) (ver:=0) (off:=0) (len:=v) (H:=HpE (Hp.put (fun _=>none) o { cells:=outE E F v,sz:=1 }) E F v o n) (ob:={ cells:=outE E F v,sz:=1 }) ⟨rfl,by dsimp only;rw [outE_len];omega,rfl⟩
 rw [frz_ref,e1,hq]
 simp only [List.drop_zero,Nat.mul_one]
 rw [List.take_of_length_le (by rw [outE_len];omega)]
 unfold outE
 unfold outE at hH'
 rw [hH']
 rfl
theorem okE.zero {v lo n:Nat}:okE (fun _=>0) v lo n:=⟨fun x _ h=>absurd rfl h,fun x y _ _ h _=>absurd rfl h⟩
set_option maxRecDepth 10000 in
set_option maxHeartbeats 4000000 in
theorem k24 (v:Nat) (bs:List (List Int)) (hl:bs.length < 2 ^ 40) (hb:∀ b∈bs,b.length < 2 ^ 40∧∀ n∈b,-2 ^ 63≤n∧n < 2 ^ 63) (hv:v≤200) (hl2:bs.length≤2000) (hE:chkE (v:Int) bs = 0) (hr:∀ b∈bs,riseB (v:Int) (-1) b = true):PureC Tryz.prog 24 [.int .i64 (v:Int),rowsV bs] (fun r=>r = .tup [rowsV (dualM v bs bs.length),.int .i64 0]):=by
 have c1:=k21 (v:Int) (by omega) bs hl hb
 unfold chkV at c1
 rw [hE,if_pos rfl] at c1
 refine PureC.weakR (e:=.tup [.sl ((List.range v).map fun x=>if (dualK bs x bs.length).length = 0 then .nils else slI (dualK bs x bs.length)) v,.int .i64 0]) ?_ ?_
 ·refine pureC_of_wp (.l [.x,.x]) mixed ok24 rfl ?_
  unfold c24
  dsimp only [argE,parV] at c1 ⊢
  refine W.run ?_
  clear c1 hE
  refine W.loop (fun y:Nat × (Nat→Nat) × Nat=>⟨[(8,.ref 112 0 0 v),(24,rowsV bs),(25,.int .i64 (bs.length:Int)),(26,.int .i64 (y.1:Int))],HpE (Hp.put (fun _=>none) 112 { cells:=outE y.2.1 (fun x=>dualK bs x y.1) v,sz:=1 }) y.2.1 (fun x=>dualK bs x y.1) v 112 y.2.2,y.2.2⟩)
   (fun y=>y.1≤bs.length∧okE y.2.1 v 112 y.2.2∧(∀ x,x < v→(y.2.1 x = 0↔dualK bs x y.1 = []))∧152≤y.2.2) (fun y=>bs.length - y.1) (0,fun _=>0,152) ⟨by dsimp only;omega,okE.zero,fun x _=>by unfold dualK;simp,by dsimp only;omega⟩ ?_ rfl ?hs rfl
  case hs =>
   dsimp only
   rw [HpE_0,outE_0]
   exact HS.p (HS.emp _)
  rintro ⟨i,E,n⟩ ⟨h1,h2,h3,h4⟩
  dsimp only at h1 h2 h3 h4 ⊢
  by_cases hh:i < bs.length
  ·have hbi:=(hb _ (List.getElem_mem hh)).1
   have hri:=hr _ (List.getElem_mem hh)
   have hde:=dualF_end hh
   have e0:(fun x=>dualK bs x i) = fun x=>dualF bs bs[i] i 0 x:=funext fun x=>(dualF_0 x).symm
   rw [e0]
   replace h3:∀ x,x < v→(E x = 0↔dualF bs bs[i] i 0 x = []):=fun x hx=>by rw [dualF_0];exact h3 x hx
   clear e0
   refine W.run ?_
   generalize bs[i] = b at hbi hri hde h3 ⊢
   refine W.loop (fun y:Nat × (Nat→Nat) × Nat=>⟨[(8,.ref 112 0 0 v),(9,.int .i64 (i:Int)),(24,rowsV bs),(25,.int .i64 (bs.length:Int)),(26,.int .i64 (i:Int)),(31,slI b),(32,.int .i64 (b.length:Int)),(33,.int .i64 (y.1:Int))],HpE (Hp.put (fun _=>none) 112 { cells:=outE y.2.1 (dualF bs b i y.1) v,sz:=1 }) y.2.1 (dualF bs b i y.1) v 112 y.2.2,y.2.2⟩)
    (fun y=>y.1≤b.length∧okE y.2.1 v 112 y.2.2∧(∀ x,x < v→(y.2.1 x = 0↔dualF bs b i y.1 x = []))∧152≤y.2.2) (fun y=>b.length - y.1) (0,E,_) ⟨by dsimp only;omega,h2.mono (Nat.le_add_right _ _),h3,by dsimp only;omega⟩ ?_ rfl ?hs2 rfl
   case hs2=>exact HS.refl _
   rintro ⟨j,E',n'⟩ ⟨g1,g2,g3,g4⟩
   dsimp only at g1 g2 g3 g4 ⊢
   by_cases hj:j < b.length
   ·have hst:=dualF_step (bs:=bs) (i:=i) hj (riseB_pw hri)
    have hrg:=riseB_rng hri _ (List.getElem_mem hj)
    obtain ⟨X,hX⟩:∃ X:Nat,b[j] = X:=⟨b[j].toNat,by omega⟩
    rw [hX] at hst hrg
    have hat:=outE_at (E:=E') (F:=dualF bs b i j) (v:=v) (x:=X) (by rw [outE_len];omega)
    have hle:=outE_len (E:=E') (F:=dualF bs b i j) (v:=v)
    refine W.run ?_
    simp only [hX,Int.toNat_natCast]
    have hXv:X < v:=by omega
    have gX:=g3 X hXv
    by_cases hEX:E' X = 0
    ·have hFX:=gX.1 hEX
     refine W.run ?_
     rw [hat,hFX]
     simp only [eV,hEX,if_true]
     refine W.run ?_
     have hF2:dualF bs b i (j+1) = updE (dualF bs b i j) X [(i:Int)]:=by
      funext x
      rw [hst (by omega),Int.toNat_natCast,hFX,List.nil_append]
     refine W.kl0 (HpE (Hp.put (fun _=>none) 112 { cells:=outE (updE E' X (n'+32+64)) (dualF bs b i (j+1)) v,sz:=1 }) (updE E' X (n'+32+64)) (dualF bs b i (j+1)) v 112 (n'+136)) ?_ ⟨(j+1,updE E' X (n'+32+64),n'+136),⟨by dsimp only;omega,g2.upd ⟨by omega,by dsimp only;omega⟩ (by omega),?gq,by dsimp only;omega⟩,rfl,by dsimp only;omega⟩ Nat.zero_lt_one
     case gq =>
      intro x hx
      dsimp only
      rw [hF2]
      unfold updE
      by_cases e:x = X
      ·rw [if_pos e,if_pos e]
       exact ⟨fun h=>by omega,fun h=>by cases h⟩
      ·rw [if_neg e,if_neg e]
       exact g3 x hx
     rw [← HpE_put g2 (by omega),set_td (by rw [outE_len];exact hXv),hF2,← outE_set]
     have hnw:=HpE_new (F:=dualF bs b i j) g2 hXv hEX (B:=(Hp.put (fun _=>none) 112 { cells:=(outE E' (dualF bs b i j) v).set X (eV (n'+32+64) [(i:Int)]),sz:=1 }).put (n'+32+56) { cells:=[.int .i64 (i:Int)],sz:=1 }) (id:=n'+32+64) (n':=n'+136) (A:=[(i:Int)]) (by omega) (by omega) (by repeat rw [put_ne (by omega)])
     have he:eV (n'+32+64) [(i:Int)] = .ref (n'+32+64) 0 0 1:=by unfold eV;rw [if_neg (by omega)];rfl
     rw [he] at hnw ⊢
     rw [show ({ cells:=[.int .i64 (i:Int)],sz:=1 }:Ob) = eO [(i:Int)] from rfl] at hnw ⊢
     rw [hnw]
     exact HpE_HS (lo:=112) (n:=n') (HS.skip (HS.refl _) (by repeat rw [put_ne (by omega)]) _)
    ·have hRl:=dualF_len (bs:=bs) (b:=b) (i:=i) (j:=j) (x:=X)
     refine W.run ?_
     rw [hat]
     have hR0:(dualF bs b i j X)≠[]:=fun h=>hEX (gX.2 h)
     have hR1:0 < (dualF bs b i j X).length:=List.length_pos_iff.2 hR0
     have hEg:=g2.1 X hXv hEX
     simp only [eV,if_neg hEX]
     refine W.run ?_
     have hF2:dualF bs b i (j+1) = updE (dualF bs b i j) X (dualF bs b i j X++[(i:Int)]):=by
      funext x
      rw [hst (by omega),Int.toNat_natCast]
     refine W.kl0 (HpE (Hp.put (fun _=>none) 112 { cells:=outE E' (dualF bs b i (j+1)) v,sz:=1 }) E' (dualF bs b i (j+1)) v 112 (n'+136)) ?_ ⟨(j+1,E',n'+136),⟨by dsimp only;omega,g2.mono (Nat.le_add_right _ _),?gq,by dsimp only;omega⟩,rfl,by dsimp only;omega⟩ Nat.zero_lt_one
     case gq =>
      intro x hx
      dsimp only
      rw [hF2]
      unfold updE
      by_cases e:x = X
      ·rw [if_pos e,e]
       exact ⟨fun h=>absurd h hEX,fun h=>by simp at h⟩
      ·rw [if_neg e]
       exact g3 x hx
     rw [set_td (by rw [outE_len];exact hXv),hF2]
     have he:V.ref (E' X) ((dualF bs b i j X).length - 1+1) 0 ((dualF bs b i j X).length+1) = eV (E' X) (dualF bs b i j X++[(i:Int)]):=by
      unfold eV
      rw [if_neg hEX,List.length_append,List.length_singleton,Nat.add_sub_cancel,show (dualF bs b i j X).length - 1+1 = (dualF bs b i j X).length by omega]
     have ho:({ cells:=(dualF bs b i j X).map (V.int .i64)++[.int .i64 (i:Int)],sz:=1,ver:=(dualF bs b i j X).length - 1+1 }:Ob) = eO (dualF bs b i j X++[(i:Int)]):=by
      unfold eO
      rw [List.map_append,List.length_append,List.length_singleton,Nat.add_sub_cancel,show (dualF bs b i j X).length - 1+1 = (dualF bs b i j X).length by omega];rfl
     rw [he,ho,HpE_old g2 hXv hEX,outE_set,updE_self]
     exact HpE_HS (lo:=112) (n:=n') (HS.skip (HS.refl _) (by repeat rw [put_ne (by omega)]) _)
   ·have hje : j = b.length := by omega
    have hdf:dualF bs b i j = fun x=>dualK bs x (i+1):=funext fun x=>by rw [hje];exact hde x
    rw [hdf] at g3 ⊢
    refine W.run ?_
    exact W.kl0 _ (HS.refl _) ⟨(i+1,E',n'+24),⟨by dsimp only;omega,g2.mono (Nat.le_add_right _ _),g3,by dsimp only;omega⟩,rfl,by dsimp only;omega⟩ Nat.zero_lt_one
  ·have hie : i = bs.length := by omega
   subst hie
   refine W.run ?_
   obtain ⟨H',hf⟩:=frz_E (k:=9) h2 h3
   exact W.retP rfl (fin_pair hf) rfl
 ·have e:rowsV (dualM v bs bs.length) = .sl ((List.range v).map fun x=>slI (dualK bs x bs.length)) v:=by
   unfold dualM rowsV
   rw [List.map_map,List.length_map,List.length_range];rfl
  have hw:VWL ((List.range v).map fun x=>if (dualK bs x bs.length).length = 0 then V.nils else slI (dualK bs x bs.length)) ((List.range v).map fun x=>slI (dualK bs x bs.length)):=by
   refine VWL.of (by simp) fun i h1 h2=>?_
   rw [List.getElem_map,List.getElem_map]
   split
   ·rename_i h0
    rw [List.length_eq_zero_iff.1 h0]
    exact VW.nils
   ·exact VW.refl _
  rw [e]
  exact VO.tup (.cons (VO.sl hw) (.cons (VO.refl _) .nil)) (.cons (VW.sl hw) (.cons (VW.refl _) .nil))
end Go.Dp
namespace Go.Dp
open Go.RowKit Go.Proofs
attribute [local irreducible] wp wpOps wpOp1 CallW CallT kSeq kBlk kLoop kReg retP retR kAsg kRound kRf kCut kItr kItr2
set_option linter.unusedVariables false
set_option linter.unusedSimpArgs false
set_option maxRecDepth 10000 in
set_option maxHeartbeats 1000000 in
theorem k14x (l:List Int) (hl:l.length < 2 ^ 63) (m:Nat) (hm:m≤1000):PureC Tryz.prog 14 [slI l,.int .i64 (m:Int)] (fun r=>r = slI (l.take m)):=by
 refine pureC_of_wp .x mixed ok14 rfl ?_
 unfold c14
 dsimp only [argE]
 by_cases h:(l.length:Int)≤m
 ·rw [List.take_of_length_le (by omega)]
  refine W.run ?_
  rfl
 ·have hlm : (l.take m).length = m := by rw [List.length_take]; omega
  refine W.run ?_
  show V.sl _ m = V.sl _ (l.take m).length
  rw [hlm]
set_option maxRecDepth 10000 in
set_option maxHeartbeats 2000000 in
theorem k20 (bs:List (List Int)) (hl:bs.length < 2 ^ 63) (hb:∀ b∈bs,b.length < 2 ^ 63):PureC Tryz.prog 20 [rowsV bs,.int .i64 60,.int .i64 30] (fun r=>r = rowsV ((bs.take 60).map (List.take 30))):=by
 refine pureC_of_wp .x mixed ok20 rfl ?_
 unfold c20
 dsimp only [argE]
 refine W.run ?_
 refine W.lp (fun i:Nat=>[(0,rowsV bs),(1,.int .i64 60),(2,.int .i64 30),(7,.ref 8 i 0 i),(8,.int .i64 (i:Int))]) (fun i=>Hp.put (fun _=>none) 8 { cells:=((bs.take i).map (List.take 30)).map slI,sz:=1,ver:=i,nl:=if i = 0 then 1 else 0 }) (fun i=>i≤bs.length∧i≤60) (fun i=>bs.length - i) 0 rfl (HS.refl _) ⟨by omega,by omega⟩ ?_
 rintro i nx ⟨hi,hi2⟩ hnx
 have hlen:(((bs.take i).map (List.take 30)).map slI).length = i:=by simp;omega
 by_cases hil:i < bs.length
 ·by_cases h60:i < 60
  ·have hs:((bs.take (i+1)).map (List.take 30)).map slI = ((bs.take i).map (List.take 30)).map slI++[slI (bs[i].take 30)]:=by
    rw [← List.take_append_getElem hil,List.map_append,List.map_append];rfl
   have c14:PureC Tryz.prog 14 [slI bs[i],.int .i64 30] (fun r=>r = slI (bs[i].take 30)):=k14x bs[i] (by have:=hb _ (List.getElem_mem hil);omega) 30 (by omega)
   generalize hC:((bs.take i).map (List.take 30)).map slI = C at hlen hs ⊢
   refine W.run ?_
   refine W.kl (i+1) rfl ?_ (by omega) ⟨by omega,by omega⟩ (by omega)
   rw [hs,if_neg (show ¬ i+1 = 0 by omega)]
   exact HS.skip (HS.refl _) (by repeat rw [put_ne (by omega)]) _
  ·have hie : i = 60 := by omega
   subst hie
   refine W.run ?_
   show V.sl _ _ = V.sl _ _
   have:((bs.take 60).map (List.take 30)).length = 60:=by simp;omega
   rw [this]
 ·rw [List.take_of_length_le (show bs.length ≤ 60 by omega)]
  rw [List.take_of_length_le (show bs.length≤i by omega)] at hlen ⊢
  refine W.run ?_
  show V.sl _ _ = V.sl _ _
  have:(bs.map (List.take 30)).length = i:=by simp;omega
  rw [this]
end Go.Dp
namespace Go.Dp
open Go.RowKit Go.Proofs
theorem k13:PureC Tryz.prog 13 [] (fun r=>r = .bool true):=pureC_of_run tab_ok 400 (by kernel_rfl)
end Go.Dp
namespace Go.Dp
open Go.RowKit Go.Proofs
attribute [local irreducible] wp wpOps wpOp1 CallW CallT kSeq kBlk kLoop kReg retP retR kAsg kRound kRf kCut kItr kItr2
set_option linter.unusedVariables false
set_option linter.unusedSimpArgs false
def B64 (n:Int):Prop:=-9223372036854775808≤n∧n < 9223372036854775808
theorem okArg_rowsV {x:V} (h:(Ty.sl (.sl (.int .i64))).okArg x):∃ l:List (List Int),x = rowsV l∧l.length < 2 ^ 63∧∀ p∈l,p.length < 2 ^ 63∧∀ n∈p,B64 n:=by
 obtain ⟨ls,rfl,hl,hx⟩:=okArg_sl h
 have key:∀ ls:List (List V),(∀ y∈ls,(Ty.sl (.int .i64)).ok y)→∃ l:List (List Int),ls.flatten = l.map slI∧ls.length = l.length∧∀ p∈l,p.length < 2 ^ 63∧∀ n∈p,B64 n:=by
  intro ls
  induction ls with
  | nil=>intro _;exact ⟨[],rfl,rfl,fun p hp=>by cases hp⟩
  | cons y ls ih =>
   intro h
   obtain ⟨zs,e,hz,hw⟩:=ok_longs (h y (by simp))
   obtain ⟨l,e1,e2,h3⟩:=ih fun z hz=>h z (by simp [hz])
   refine ⟨zs::l,by rw [List.flatten_cons,e,e1];rfl,by simp [e2],fun p hp=>?_⟩
   rcases List.mem_cons.1 hp with rfl | hp
   ·exact ⟨by unfold maxLen at hz;omega,fun n hn=>by have:=hw n hn;unfold B64;omega⟩
   ·exact h3 p hp
 obtain ⟨l,e1,e2,h3⟩:=key ls hx
 exact ⟨l,by rw [e1,e2],by rw [← e2];unfold maxLen at hl;omega,h3⟩
theorem chkE_0 {v:Int} {bs:List (List Int)} (h:chkE v bs = 0):(3≤v∧v≤200)∧bs.length≤2000∧2≤(bs.headD []).length∧(∀ b∈bs,goodB v (bs.headD []).length b = true)∧PairsOk v.toNat (allP bs bs.length) (allP bs bs.length 1):=by
 unfold chkE at h
 split at h
 ·omega
 rename_i h1
 split at h
 ·omega
 rename_i h2
 split at h
 ·omega
 rename_i h3
 split at h
 ·omega
 rename_i h4
 split at h
 ·omega
 rename_i h5
 refine ⟨by omega,by omega,by omega,fun b hb=>?_,?_⟩
 ·rw [Bool.not_eq_false,List.all_eq_true] at h4
  exact h4 b hb
 ·exact Classical.byContradiction fun hc=>h5 (by simp [hc])
theorem chkVW {v:Int} {bs:List (List Int)}:chkV v bs = chkW v bs:=by
 unfold chkV chkW
 split
 ·rename_i h
  obtain ⟨h1,h2,h3,h4,h5⟩:=chkE_0 h
  obtain ⟨V',rfl⟩:∃ V':Nat,v = V':=⟨v.toNat,by omega⟩
  rw [Int.toNat_natCast] at h5
  rw [same_R (by omega) h3 h4 h5]
 ·rfl
theorem chkV_par (v:Int) (bs:List (List Int)):∃ a b c d e,chkV v bs = parV a b c d e:=by
 unfold chkV;split
 ·exact ⟨_,_,_,_,_,rfl⟩
 ·exact ⟨_,_,_,_,_,rfl⟩
theorem chkE_rng (v:Int) (bs:List (List Int)):0≤chkE v bs∧chkE v bs≤60:=by
 unfold chkE
 repeat' split
 all_goals omega
theorem compM_len {v:Nat} {bs:List (List Int)}:(compM v bs).length = bs.length:=by unfold compM;rw [List.length_map]
theorem dualM_len {v k:Nat} {bs:List (List Int)}:(dualM v bs k).length = v:=by unfold dualM;rw [List.length_map,List.length_range]
theorem mapS_nils {k:Nat} {H:Hp}:∀ n,mapS (frz (k+1)) (zerosV [.nils] n) H = some (zerosV [.nils] n,H)
 | 0=>rfl
 | n+1=>by
  show mapS (frz (k+1)) (.nils::zerosV [.nils] n) H = some (.nils::zerosV [.nils] n,H)
  rw [mapS,frz_nils]
  simp only [Option.bind_some,mapS_nils n,Option.map_some]
theorem frz_long {m:Int} {o N:Nat}:∃ H',mapS (frz 12) [.int .i64 m,.ref o 0 0 N] (Hp.put (fun _=>none) o { cells:=zerosV [.nils] N,sz:=1 }) = some ([.int .i64 m,.sl (zerosV [.nils] N) N],H'):=by
 have hz:(zerosV [V.nils] N).length = N:=by rw [zerosV_length];simp
 have hq:=frzRef_some (n:=11) (o:=o) (ver:=0) (off:=0) (len:=N) (H:=Hp.put (fun _=>none) o { cells:=zerosV [V.nils] N,sz:=1 }) (ob:={ cells:=zerosV [V.nils] N,sz:=1 }) ⟨rfl,by dsimp only;omega,rfl⟩
 refine ⟨(Hp.put (fun _=>none) o { cells:=zerosV [V.nils] N,sz:=1 }).mark o (0+N * 1),?_⟩
 rw [mapS,frz_int]
 simp only [Option.bind_some]
 rw [mapS,frz_ref,put_same,hq]
 simp only [List.drop_zero,Nat.mul_one]
 rw [List.take_of_length_le (by omega),mapS_nils]
 rfl
set_option maxRecDepth 10000 in
set_option maxHeartbeats 4000000 in
theorem k5 (v:Int) (bs0:List (List Int)) (hv:B64 v) (hl0:bs0.length < 2 ^ 63) (hb0:∀ p∈bs0,p.length < 2 ^ 63∧∀ n∈p,B64 n):PureC Tryz.prog 5 [.int .i64 v,rowsV bs0] (fun r=>r = .bool true):=by
 have cA:=k13
 have c20:=k20 bs0 hl0 fun b hb=>(hb0 b hb).1
 unfold B64 at hv
 have hbl:((bs0.take 60).map (List.take 30)).length≤60:=by simp;omega
 have hbb:∀ b∈(bs0.take 60).map (List.take 30),b.length < 2 ^ 40∧∀ n∈b,-2 ^ 63≤n∧n < 2 ^ 63:=by
  intro b hb
  obtain ⟨c,hc,rfl⟩:=List.mem_map.1 hb
  refine ⟨by simp;omega,fun n hn=>?_⟩
  have:=(hb0 c (List.mem_of_mem_take hc)).2 n (List.mem_of_mem_take hn)
  unfold B64 at this;omega
 generalize (bs0.take 60).map (List.take 30) = bs at c20 hbl hbb
 obtain ⟨N,hN⟩:∃ N:Nat,(2001:Int) = N:=⟨2001,rfl⟩
 refine pureC_of_wp .x mixed ok5 rfl ?_
 unfold c5
 rw [hN]
 dsimp only [argE]
 refine W.run ?_
 clear c20 hb0 hl0
 refine W.loop (fun z:Nat × Int × Nat=>⟨[(0,.int .i64 z.2.1),(5,rowsV bs),(6,.int .i64 (z.1:Int))],fun _=>none,z.2.2⟩) (fun z=>z.1≤2∧B64 z.2.1) (fun z=>2 - z.1) (0,v,_) ⟨by dsimp only;omega,hv⟩ ?_ rfl (HS.refl _) rfl
 clear hv
 rintro ⟨k,v,m⟩ ⟨hk,hv⟩
 dsimp only at hk hv ⊢
 by_cases hk2:k < 2
 ·clear cA
  have hv2:=hv
  unfold B64 at hv2
  have c21:=k21 v (by omega) bs (by omega) hbb
  have c22:=k22 v (by omega) bs (by omega) hbb
  rw [← chkVW] at c22
  have hnx:B64 (3+v % 18446744073709551616 % 9):=by unfold B64;omega
  obtain ⟨a,b,c,d,e,hP⟩:=chkV_par v bs
  rw [hP] at c21 c22
  have c23:=k23 a b c d e a b c d e
  rw [decide_eq_true rfl] at c23
  by_cases hE:chkE v bs = 0
  ·obtain ⟨h1,h2,h3,h4,h5⟩:=chkE_0 hE
   obtain ⟨V',rfl⟩:∃ V':Nat,v = V':=⟨v.toNat,by omega⟩
   have hr:∀ b∈bs,riseB (V':Int) (-1) b = true:=fun b hb=>by
    have:=h4 b hb
    unfold goodB at this
    rw [Bool.and_eq_true] at this
    exact this.2
   have c24:=k24 V' bs (by omega) hbb (by omega) h2 hE hr
   have c25:=k25 V' bs (by omega) hbb (by omega) h2 hE
   have c27:=k27 V' (by omega) bs h2 fun b hb=>(hbb b hb).1
   have c28:=k28 V' (by omega) bs h2 fun b hb=>(hbb b hb).1
   have hd:∀ a∈dualM V' bs bs.length,a.length < 2 ^ 40:=fun a ha=>by
    unfold dualM at ha
    obtain ⟨x,_,rfl⟩:=List.mem_map.1 ha
    have:=dualK_len (bs:=bs) (x:=x) (k:=bs.length)
    omega
   have hcp:∀ a∈compM V' bs,a.length < 2 ^ 40:=fun a ha=>by
    unfold compM at ha
    obtain ⟨x,_,rfl⟩:=List.mem_map.1 ha
    have:=compK_len (b:=x) (k:=V')
    omega
   have hdl:=dualM_len (v:=V') (k:=bs.length) (bs:=bs)
   have hcl:=compM_len (v:=V') (bs:=bs)
   have c19:=k19 (dualM V' bs bs.length) (dualM V' bs bs.length) ⟨by omega,hd⟩ ⟨by omega,hd⟩
   have c19':=k19 (compM V' bs) (compM V' bs) ⟨by omega,hcp⟩ ⟨by omega,hcp⟩
   rw [decide_eq_true rfl] at c19 c19'
   rw [hE] at c21 c22
   generalize dualM V' bs bs.length = D at c19 c24 c27 hdl
   generalize compM V' bs = C at c19' c25 c28 hcl
   clear hE hP h3 h4 h5 hr hd hcp hbb
   unfold parV at c21 c22 c23
   refine W.run ?_
   exact W.kl0 (fun _=>none) (HS.emp _) ⟨(k+1,3+(V':Int) % 9,_),⟨by dsimp only;omega,by unfold B64;dsimp only;omega⟩,rfl,by dsimp only;omega⟩ Nat.zero_lt_one
  ·have c24 := k24e v (by omega) bs (by omega) hbb hE
   have c25:=k25e v (by omega) bs (by omega) hbb hE
   have c26:=k26e v (by omega) bs (by omega) hbb hE
   have hrg:=chkE_rng v bs
   generalize chkE v bs = E at c21 c22 c24 c25 c26 hE hrg
   clear hP hbb
   unfold parV at c21 c22 c23
   refine W.run ?_
   exact W.kl0 (fun _=>none) (HS.emp _) ⟨(k+1,3+v % 18446744073709551616 % 9,_),⟨by dsimp only;omega,hnx⟩,rfl,by dsimp only;omega⟩ Nat.zero_lt_one
 ·have hke : k = 2 := by omega
  subst hke
  refine W.run ?_
  obtain ⟨H',hf⟩:=frz_long (m:=7) (o:=m+16) (N:=N)
  have hN2:N = 2001:=by omega
  have c21:PureC Tryz.prog 21 [.int .i64 7,.sl (zerosV [.nils] N) N] (fun r=>r = .tup [.agg [.int .i64 0,.int .i64 0,.int .i64 0,.int .i64 0,.int .i64 0],.int .i64 2]):=by
   have h := k21 7 (by omega) (List.replicate N []) (by rw [List.length_replicate]; omega) fun b hb => by
    rw [(List.mem_replicate.1 hb).2]
    exact ⟨by simp,fun n hn=>by cases hn⟩
   have hE:chkE 7 (List.replicate N []) = 2:=by
    unfold chkE
    rw [if_neg (by omega),if_pos (by rw [List.length_replicate];omega)]
   unfold chkV at h
   rw [hE,if_neg (by omega)] at h
   refine PureC.weak h (.cons (VW.refl _) (.cons ?_ .nil))
   have e:rowsV (List.replicate N []) = .sl (List.replicate N (slI [])) N:=by
    unfold rowsV
    rw [List.map_replicate,List.length_replicate]
   rw [e,zerosV_rep]
   refine VW.sl (VWL.of (by simp) fun i h1 h2=>?_)
   rw [List.getElem_replicate,List.getElem_replicate]
   exact VW.nils
  refine W.pc0 c21 hf rfl ?_
  refine W.run ?_
  rfl
def tys5:List Ty:=[.int .i64,.sl (.sl (.int .i64))]
theorem law5:∀ xs,Ty.okArgs tys5 xs→PureC Tryz.prog 5 xs (fun r=>r = .bool true):=by
 intro xs h
 obtain ⟨x,l,rfl,hx,h⟩:=okArgs_cons h
 obtain ⟨y,l,rfl,hy,h⟩:=okArgs_cons h
 obtain rfl:=okArgs_nil h
 obtain ⟨a,rfl,ha⟩:=okArg_i64 hx
 obtain ⟨l,rfl,hl,hw⟩:=okArg_rowsV hy
 exact k5 a l ha hl hw
end Go.Dp
