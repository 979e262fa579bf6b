import Derived.Test.YtgbjppfikncpcaaGreatDpRunS
import Derived.Below
import Derived.ChangeSame
import Derived.WideKeyArgs
import Derived.OpenShut
import Derived.Carry
namespace Go.Dp
open Go.RowKit Go.WideShapes Go.ChangeShapes
set_option linter.unusedVariables false
theorem post_of_below {H:Type} {enc:TypeId × Value→H} {P:Program} {f:Func} {s:ChangeSpec} {apart fresh handsOn again:Bool} {W W':World} {args:Array Value} {v:Value} {ds gs:List (DataW H)} {before pa pv:List MemPlace}
  (hW:DataW.Whole enc P f.params.toList s.vars apart W args.toList ds gs before)
  (hres:∀ (b:Nat) (sp:Nat→Bool) (hd:Bool),DataW.TrodAll enc P W' b sp hd f.resultTypes.toList (v.resultList f.resultTypes.size) (s.fn H (ds++gs)).results [])
  (hargs:∀ sp:Nat→Bool,(∀ p∈before,sp p.block = true)→DataW.TrodAll enc P W' 0 sp true f.params.toList args.toList (s.fn H (ds++gs)).args pa)
  (hvars:∀ sp:Nat→Bool,(∀ p∈before,sp p.block = true)→DataW.TrodVars enc P W' sp s.vars (s.fn H (ds++gs)).vars pv)
  (hps:before = pa++pv) (hb:Below W.heap.size W W')
  (hok:∀ (j:Nat) (t:TypeId) (r:Value),f.resultTypes[j]? = some t→(v.resultList f.resultTypes.size)[j]? = some r→Value.okWide P W' .any 0 t r) :
  s.post enc P f apart fresh handsOn again W args v W':=by
 have hlt:∀ p∈before,p.block < W.heap.size:=fun p hp=>hW.lt p hp
 have hold:∀ p∈before,(fun b=>decide (b < W.heap.size)) p.block = true:=fun p hp=>by simpa using hlt p hp
 refine ⟨ds,gs,before,[],pa,pv,hW,hres _ _ _,hargs _ hold,hvars _ hold,World.keptBut_mono (fun p hp=>⟨hp,?_⟩) (hb.frame (·∈before)),fun _=>?_⟩
 ·rw [hps,List.mem_append] at hp
  exact Or.inr hp
 ·obtain ⟨_,_,_,_,_,hz,hn⟩:=hW
  refine ⟨hok,_,_,([]++pa)++pv,⟨[]++pa,pv,trodAll_append (hargs _ (fun _ _=>rfl)) (hres _ _ _),hvars _ (fun _ _=>rfl),rfl,?_,?_⟩,?_⟩
  ·intro b off hp
   have hin:MemPlace.cell b off∈before:=by rw [hps];simpa using hp
   rw [hb.frozen (hlt _ hin)]
   exact hz b off hin
  ·intro ha
   have:=hn ha
   rw [hps] at this
   simpa using this
  ·intro p hp _
   rw [hps]
   simpa using hp
theorem PureC.walk {P:Program} {f:FuncId} {ds:List V} (h:PureC P f ds (fun r=>r = .bool true)) {G:Gm} {w:World} {vals:List Value} (hG:GOk G w) (hd:DRL G ds vals) :
  Calls P f vals.toArray w fun e w'=>e = .returned (.bool true)∧Below w.heap.size w w':=by
 refine (callsIn_wide.1 (h.2 G w vals hG hd)).mono ?_
 rintro e w' ⟨r,x,rfl,rfl,hb,G',bs,_,_,_,ho,_⟩
 cases ho with
 | deep h=>cases h;exact ⟨rfl,hb⟩
section
variable {H:Type} {enc:TypeId × Value→H} {P:Program} {w:World} {base:Nat} {spare:Nat→Bool} {held:Bool}
theorem trodAll_stays (hl:laidOutB P = true) {W W':World} (hb:Below W.heap.size W W') {sp:Nat→Bool}:∀ (ts:List TypeId) (vs:List Value) (ds:List (DataW H)) (ps:List MemPlace),(∀ t∈ts,P.readableRec t = true∧t < P.types.size) →
  DataW.TrodAll enc P W 0 (fun _=>true) true ts vs ds ps→(∀ x∈ps,x.block < W.heap.size)→(∀ x∈ps,sp x.block = true)→DataW.TrodAll enc P W' 0 sp true ts vs ds ps
 | [],vs,ds,ps,_,h,_,_=>by
  obtain ⟨rfl,rfl,rfl⟩:=trodAll_nil h
  exact trodAll_mk0
 | t::ts,vs,ds,ps,ht,h,hlt,hs=>by
  obtain ⟨v,vs',d,ds',p,q,rfl,rfl,rfl,h1,h2⟩:=trodAll_cons h
  have ht1:=ht t (by simp)
  refine trodAll_cons_mk ?_ (trodAll_stays hl hb ts vs' ds' q (fun t ht'=>ht t (List.mem_cons_of_mem _ ht')) h2 (fun x hx=>hlt x (by simp [hx])) (fun x hx=>hs x (by simp [hx])))
  exact WideElems.Trod_stays hl ht1.1 ht1.2 h1 (fun x hx=>hb.same (hlt x (by simp [hx]))) (fun x hx=>hs x (by simp [hx]))
end
end Go.Dp
namespace Go.Dp
open Go.RowKit Go.WideShapes Go.ChangeShapes
set_option linter.unusedVariables false
inductive Ty where
 | int (k:IntKind) | bool | str
 | arr (n:Nat) (e:Ty)
 | nil | cons (f fs:Ty)
 | sl (e:Ty)
def Ty.ok:Ty→List V→Prop
 | .int k,l=>∃ z,l = [.int k z]∧(Lit.int k z).wf = true
 | .bool,l=>∃ b,l = [.bool b]
 | .str,l=>∃ s:ByteArray,l = [.str s]∧s.size≤maxLen
 | .arr n e,l=>∃ ls:List (List V),ls.length = n∧l = ls.flatten∧∀ x∈ls,e.ok x
 | .nil,l=>l = []
 | .cons f fs,l=>∃ a b,l = a++b∧f.ok a∧fs.ok b
 | .sl e,l=>∃ ls:List (List V),l = [.sl ls.flatten ls.length]∧ls.length≤maxLen∧∀ x∈ls,e.ok x
def Ty.fits (P:Program):Ty→(TypeId ⊕ (List Field × Nat × Nat))→Bool
 | .int k,.inl t=>match P.underlying t with | some (.int j)=>decide (j = k) && P.cellsOf t == 1 | _=>false
 | .bool,.inl t=>match P.underlying t with | some .bool=>P.cellsOf t == 1 | _=>false
 | .str,.inl t=>match P.underlying t with | some .string=>P.cellsOf t == 1 | _=>false
 | .arr n e,.inl t=>match P.underlying t with | some (.array m u)=>m == n && P.cellsOf t == n * P.cellsOf u && e.fits P (.inl u) | _=>false
 | .sl e,.inl t=>match P.underlying t with | some (.slice u)=>Nat.blt 0 (P.cellsOf u) && P.cellsOf t == 1 && e.fits P (.inl u) | _=>false
 | .cons f fs,.inl t=>match P.underlying t with
  | some (.struct a)=>match a.toList with
   | g::gs=>g.offset == 0 && f.fits P (.inl g.type) && fs.fits P (.inr (gs,P.cellsOf g.type,P.cellsOf t)) | []=>false
  | _=>false
 | .cons f fs,.inr (g::gs,off,tot)=>g.offset == off && f.fits P (.inl g.type) && fs.fits P (.inr (gs,off+P.cellsOf g.type,tot))
 | .nil,.inr ([],off,tot)=>off == tot
 | _,_=>false
def allG (w:World):Gm:=fun b o=>w.cell? ⟨b,o,none⟩
theorem allG_ok (w:World):GOk (allG w) w:=fun _ _ _ h=>h
section
variable {H:Type} {enc:TypeId × Value→H} {P:Program} {w:World} {base:Nat} {spare:Nat→Bool} {held:Bool}
theorem ones_app {a b:List Value} (ha:Ones a) (hb:Ones b):Ones (a++b):=fun x hx=>by
 rcases List.mem_append.1 hx with h | h
 ·exact ha x h
 ·exact hb x h
theorem ones_nil:Ones []:=fun x hx=>by cases hx
def TyQ (enc:TypeId × Value→H) (P:Program) (w:World) (base:Nat) (spare:Nat→Bool) (held:Bool) (ty:Ty):(TypeId ⊕ (List Field × Nat × Nat))→Prop
 | .inl t=>∀ (fuel:Nat) (cs:List Value) (x:DataW H × List MemPlace),DataW.trod enc P w base spare held fuel t cs = some x→∃ l,ty.ok l∧DRL (allG w) l cs∧Ones cs∧cs.length = P.cellsOf t
 | .inr (gs,off,tot)=>∀ (fuel:Nat) (cs:List Value),cs.length = tot→(∀ g∈gs,∃ x:DataW H × List MemPlace,DataW.trod enc P w base spare held fuel g.type ((cs.drop g.offset).take (P.cellsOf g.type)) = some x)→∃ l,ty.ok l∧DRL (allG w) l (cs.drop off)∧Ones (cs.drop off)
theorem arr_build {e:Ty} {u:TypeId} (he:TyQ enc P w base spare held e (.inl u)) {m:Nat}:∀ (n:Nat) (cs:List Value),cs.length = n * P.cellsOf u →
  (∀ i,i < n→∃ x:DataW H × List MemPlace,DataW.trod enc P w base spare held m u ((cs.drop (i * P.cellsOf u)).take (P.cellsOf u)) = some x) →
  ∃ ls:List (List V),ls.length = n∧(∀ x∈ls,e.ok x)∧DRL (allG w) ls.flatten cs∧Ones cs
 | 0,cs,hl,_=>by
  have:cs = []:=List.length_eq_zero_iff.1 (by simpa using hl)
  subst this
  exact ⟨[],rfl,fun _ h=>(by cases h),.nil,ones_nil⟩
 | n+1,cs,hl,h=>by
  obtain ⟨x,hx⟩:=h 0 (by omega)
  rw [Nat.zero_mul,List.drop_zero] at hx
  obtain ⟨l,h1,h2,h3,h4⟩:=he m _ x hx
  obtain ⟨ls, g1, g2, g3, g4⟩ := arr_build he n (cs.drop (P.cellsOf u)) (by rw [List.length_drop, hl, Nat.add_mul, Nat.one_mul]; omega) (fun i hi => by
   obtain ⟨x,hx⟩:=h (i+1) (by omega)
   refine ⟨x,?_⟩
   rw [List.drop_drop,show P.cellsOf u+i * P.cellsOf u = (i+1) * P.cellsOf u by rw [Nat.add_mul];omega];exact hx)
  refine ⟨l::ls,by simp [g1],fun x hx=>?_,?_,?_⟩
  ·rcases List.mem_cons.1 hx with rfl | hx
   ·exact h1
   ·exact g2 x hx
  ·rw [← List.take_append_drop (P.cellsOf u) cs,List.flatten_cons]
   exact h2.append g3
  ·rw [← List.take_append_drop (P.cellsOf u) cs]
   exact ones_app h3 g4
theorem sl_build {e:Ty} {u:TypeId} (he:TyQ enc P w base spare held e (.inl u)) (hu:0 < P.cellsOf u) {m len:Nat} {a:Addr} (h:∀ i,i < len→∃ x:DataW H × List MemPlace,(w.cells? base (a.add (i * P.cellsOf u)) (P.cellsOf u)).bind (DataW.trod enc P w base spare held m u) = some x) :
  ∀ (n i0:Nat),i0+n≤len→∃ (ls:List (List V)) (vs:List Value),ls.length = n∧(∀ x∈ls,e.ok x)∧DRL (allG w) ls.flatten vs∧Ones vs∧vs.length = n * P.cellsOf u∧∀ j v,vs[j]? = some v→w.cell? (a.add (i0 * P.cellsOf u+j)) = some v
 | 0,i0,_=>⟨[],[],rfl,fun _ h=>(by cases h),.nil,ones_nil,by simp,fun j v h=>by simp at h⟩
 | n+1,i0,hi=>by
  obtain ⟨x,hx⟩:=h i0 (by omega)
  rw [Option.bind_eq_some_iff] at hx
  obtain ⟨cs,hc,hx⟩:=hx
  obtain ⟨_,hcl,hcc⟩:=World.cells?_some hc
  obtain ⟨l,h1,h2,h3,h4⟩:=he m _ x hx
  obtain ⟨ls,vs,g1,g2,g3,g4,g5,g6⟩:=sl_build he hu h n (i0+1) (by omega)
  refine ⟨l::ls,cs++vs,by simp [g1],fun x hx=>?_,by rw [List.flatten_cons];exact h2.append g3,ones_app h3 g4,by rw [List.length_append,hcl,g5,Nat.add_mul];omega,fun j v hj=>?_⟩
  ·rcases List.mem_cons.1 hx with rfl | hx
   ·exact h1
   ·exact g2 x hx
  ·by_cases hjc:j < cs.length
   ·rw [List.getElem?_append_left hjc] at hj
    rw [← hj,← hcc j (by omega)]
    congr 1
    unfold Addr.add
    by_cases z1:i0 * P.cellsOf u = 0
    ·rw [if_pos z1,z1,Nat.zero_add]
    ·rw [if_neg z1, if_neg (by omega)]
     by_cases z2:j = 0
     ·subst z2;rw [if_pos rfl];rfl
     ·rw [if_neg z2];simp only [Nat.add_assoc]
   ·rw [List.getElem?_append_right (by omega), hcl] at hj
    have:=g6 _ _ hj
    rwa [show (i0+1) * P.cellsOf u+(j - P.cellsOf u) = i0 * P.cellsOf u+j by rw [Nat.add_mul];omega] at this
theorem add_spot {a:Addr} {n:Nat} {v:Value} (h:w.cell? (a.add n) = some v) (h0:n = 0→a.spot = none):w.cell? ⟨a.block,a.off+n,none⟩ = some v:=by
 unfold Addr.add at h
 by_cases hn:n = 0
 ·subst hn
  rw [if_pos rfl] at h
  obtain ⟨b,o,s⟩:=a
  have:s = none:=h0 rfl
  subst this;exact h
 ·rw [if_neg hn] at h;exact h
theorem cell_spot {a:Addr} {v:Value} (h:w.cell? a = some v):a.spot = none:=by
 unfold World.cell? at h
 split at h
 ·cases hs:a.spot with
  | none=>rfl
  | some s=>rw [hs] at h;cases h
 ·cases h
theorem Ty.read:∀ (ty:Ty) (q:TypeId ⊕ (List Field × Nat × Nat)),ty.fits P q = true→TyQ enc P w base spare held ty q:=by
 intro ty
 induction ty with
 | int k =>
  intro q hf
  match q,hf with
  | .inl t,hf =>
   intro fuel cs x h
   simp only [Ty.fits] at hf
   split at hf
   ·rename_i j hu
    simp only [Bool.and_eq_true,decide_eq_true_eq,beq_iff_eq] at hf
    obtain ⟨rfl,hc⟩:=hf
    obtain ⟨n,rfl,rfl,hw⟩:=DataW.trod_int hu h
    exact ⟨[.int j n],⟨n,rfl,hw⟩,.cons (.int _ _) .nil,fun x hx=>by simp at hx;subst hx;rfl,by simp [hc]⟩
   ·cases hf
  | .inr (_,_,_),hf=>cases hf
 | bool =>
  intro q hf
  match q,hf with
  | .inl t,hf =>
   intro fuel cs x h
   simp only [Ty.fits] at hf
   split at hf
   ·rename_i hu
    simp only [beq_iff_eq] at hf
    obtain ⟨n,rfl,rfl⟩:=DataW.trod_bool hu h
    exact ⟨[.bool n],⟨n,rfl⟩,.cons (.bool _) .nil,fun x hx=>by simp at hx;subst hx;rfl,by simp [hf]⟩
   ·cases hf
  | .inr (_,_,_),hf=>cases hf
 | str =>
  intro q hf
  match q,hf with
  | .inl t,hf =>
   intro fuel cs x h
   simp only [Ty.fits] at hf
   split at hf
   ·rename_i hu
    simp only [beq_iff_eq] at hf
    obtain ⟨n,rfl,rfl,hs⟩:=DataW.trod_string hu h
    exact ⟨[.str n],⟨n,rfl,hs⟩,.cons (.str _) .nil,fun x hx=>by simp at hx;subst hx;rfl,by simp [hf]⟩
   ·cases hf
  | .inr (_,_,_),hf=>cases hf
 | arr n e ih =>
  intro q hf
  match q,hf with
  | .inl t,hf =>
   intro fuel cs x h
   simp only [Ty.fits] at hf
   split at hf
   ·rename_i m u hu
    simp only [Bool.and_eq_true,beq_iff_eq] at hf
    obtain ⟨⟨rfl,hc⟩,hg⟩:=hf
    obtain ⟨xs,m',_,rfl,hl,hn,hi⟩:=DataW.trod_array hu h
    obtain ⟨ls,g1,g2,g3,g4⟩:=arr_build (ih (.inl u) hg) (m:=m') m cs (by rw [hl,hc]) (fun i hi'=>⟨xs[i]'(by omega),by rw [hi i hi'];exact List.getElem?_eq_getElem _⟩)
    exact ⟨ls.flatten,⟨ls,g1,rfl,g2⟩,g3,g4,hl⟩
   ·cases hf
  | .inr (_,_,_),hf=>cases hf
 | sl e ih =>
  intro q hf
  match q,hf with
  | .inl t,hf =>
   intro fuel cs x h
   simp only [Ty.fits] at hf
   split at hf
   ·rename_i u hu
    simp only [Bool.and_eq_true,beq_iff_eq] at hf
    obtain ⟨⟨h0,hc⟩,hf⟩:=hf
    have h0:0 < P.cellsOf u:=Nat.le_of_ble_eq_true h0
    have one:∀ v:Value,v.oneCell' = true→Ones [v]:=fun v hv x hx=>by simp at hx;subst hx;exact hv
    rcases DataW.trod_slice hu h with ⟨rfl,rfl⟩ | ⟨a,len,cap,elems,rest,m,_,rfl,rfl,hb,hl,hm,hlen,hel,_,_⟩
    ·exact ⟨[.sl [] 0],⟨[],rfl,by simp,fun _ h=>by cases h⟩,.cons (.sl0 none 0) .nil,one _ rfl,by simp [hc]⟩
    ·obtain ⟨ls, vs, g1, g2, g3, g4, g5, g6⟩ := sl_build (ih (.inl u) hf) h0 (m := m) (len := len) (a := a) (fun i hi => ⟨elems[i]'(by omega), by rw [hel i hi]; exact List.getElem?_eq_getElem _⟩) len 0 (by omega)
     by_cases hz:len = 0
     ·subst hz
      exact ⟨[.sl [] 0],⟨[],rfl,by simp,fun _ h=>by cases h⟩,.cons (.sl0 _ _) .nil,one _ rfl,by simp [hc]⟩
     ·have hsp:a.spot = none:=by
       have:0 < vs.length:=by rw [g5];exact Nat.mul_pos (by omega) h0
       have h1:=g6 0 _ (List.getElem?_eq_getElem this)
       rw [Nat.zero_mul,Nat.add_zero] at h1
       have h2:a.add 0 = a:=if_pos rfl
       rw [h2] at h1
       exact cell_spot h1
      obtain ⟨b,o,s⟩:=a
      simp only at hsp
      subst hsp
      refine ⟨[.sl ls.flatten ls.length],⟨ls,rfl,by rw [g1];omega,g2⟩,.cons ?_ .nil,one _ rfl,by simp [hc]⟩
      rw [g1]
      refine .sl g3 (fun i v hv=>?_) hl g4
      have h1:=g6 i v hv
      rw [Nat.zero_mul,Nat.zero_add] at h1
      exact add_spot h1 (fun _=>rfl)
   ·cases hf
  | .inr (_,_,_),hf=>cases hf
 | nil =>
  intro q hf
  match q,hf with
  | .inl t,hf=>simp [Ty.fits] at hf
  | .inr ([],off,tot),hf =>
   simp only [Ty.fits,beq_iff_eq] at hf
   subst hf
   intro fuel cs hl _
   have:cs.drop off = []:=List.drop_eq_nil_of_le (by omega)
   rw [this]
   exact ⟨[],rfl,.nil,ones_nil⟩
  | .inr (_::_,_,_),hf=>simp [Ty.fits] at hf
 | cons f fs ih1 ih2 =>
  intro q hf
  have step:∀ (g:Field) (gs:List Field) (off tot:Nat),g.offset = off→f.fits P (.inl g.type) = true→fs.fits P (.inr (gs,off+P.cellsOf g.type,tot)) = true→TyQ enc P w base spare held (.cons f fs) (.inr (g::gs,off,tot)):=by
   intro g gs off tot h1 h2 h3 fuel cs hl hg
   obtain ⟨x,hx⟩:=hg g (by simp)
   rw [h1] at hx
   obtain ⟨l,a1,a2,a3,a4⟩:=ih1 (.inl g.type) h2 fuel _ x hx
   obtain ⟨m,b1,b2,b3⟩:=ih2 (.inr (gs,off+P.cellsOf g.type,tot)) h3 fuel cs hl (fun g' hg'=>hg g' (List.mem_cons_of_mem _ hg'))
   have e:cs.drop off = (cs.drop off).take (P.cellsOf g.type)++cs.drop (off+P.cellsOf g.type):=by
    rw [← List.drop_drop];exact (List.take_append_drop _ _).symm
   exact ⟨l++m,⟨l,m,rfl,a1,b1⟩,by rw [e];exact a2.append b2,by rw [e];exact ones_app a3 b3⟩
  match q,hf with
  | .inl t,hf =>
   intro fuel cs x h
   simp only [Ty.fits] at hf
   split at hf
   ·rename_i a hu
    split at hf
    ·rename_i g gs ha
     simp only [Bool.and_eq_true,beq_iff_eq] at hf
     obtain ⟨⟨h1,h2⟩,h3⟩:=hf
     obtain ⟨xs,n,_,rfl,hl,hn,hi⟩:=DataW.trod_struct hu h
     obtain ⟨l, k1, k2, k3⟩ := step g gs 0 (P.cellsOf t) h1 h2 (by rwa [Nat.zero_add]) n cs hl (fun g' hg' => by
      rw [← ha] at hg'
      obtain ⟨i,hi',e⟩:=List.getElem_of_mem hg'
      have e2:a[i]? = some g':=by rw [← Array.getElem?_toList,List.getElem?_eq_getElem hi',e]
      have hlt:i < xs.length:=by
       have:=(Array.getElem?_eq_some_iff.1 e2).1
       omega
      exact ⟨xs[i]'hlt,by rw [hi i g' e2];exact List.getElem?_eq_getElem _⟩)
     exact ⟨l,k1,k2,k3,hl⟩
    ·cases hf
   ·cases hf
  | .inr (g::gs,off,tot),hf =>
   simp only [Ty.fits,Bool.and_eq_true,beq_iff_eq] at hf
   exact step g gs off tot hf.1.1 hf.1.2 hf.2
  | .inr ([],_,_),hf=>simp [Ty.fits] at hf
theorem Ty.one {ty:Ty} {t:TypeId} (hf:ty.fits P (.inl t) = true) {v:Value} {d:DataW H} {p:List MemPlace} (hv:v.cells.toList = [v]) (h:DataW.Trod enc P w base spare held t v d p):∃ x,ty.ok [x]∧DR (allG w) x v:=by
 obtain ⟨fuel,h⟩:=h
 rw [hv] at h
 obtain ⟨l,h1,h2,_,_⟩:=Ty.read ty (.inl t) hf fuel _ _ h
 cases h2 with
 | cons a b=>cases b with
  | nil=>exact ⟨_,h1,a⟩
theorem Ty.agg {ty:Ty} {t:TypeId} (hf:ty.fits P (.inl t) = true) {cs:Array Value} {d:DataW H} {p:List MemPlace} (h:DataW.Trod enc P w base spare held t (.agg cs) d p):∃ l,ty.ok l∧DR (allG w) (.agg l) (.agg cs):=by
 obtain ⟨fuel,h⟩:=h
 obtain ⟨l,h1,h2,h3,_⟩:=Ty.read ty (.inl t) hf fuel _ _ h
 exact ⟨l,h1,.agg h2 h3⟩
def Ty.okArg:Ty→V→Prop
 | .arr n e,x=>∃ l,x = .agg l∧(Ty.arr n e).ok l
 | .cons f fs,x=>∃ l,x = .agg l∧(Ty.cons f fs).ok l
 | .nil,_=>False
 | ty,x=>ty.ok [x]
def Ty.okArgs:List Ty→List V→Prop
 | [],[]=>True
 | t::ts,x::xs=>t.okArg x∧Ty.okArgs ts xs
 | _,_=>False
theorem cells_one {v:Value} (h:∀ cs,v≠.agg cs):v.cells.toList = [v]:=by
 cases v <;> first | rfl | exact absurd rfl (h _)
theorem Ty.arg {ty:Ty} {t:TypeId} (hf:ty.fits P (.inl t) = true) {v:Value} (hv:Value.okWide P w .any base t v) {b2:Nat} {d:DataW H} {p:List MemPlace} (h:DataW.Trod enc P w b2 spare held t v d p):∃ x,ty.okArg x∧DR (allG w) x v:=by
 have hf':=hf
 cases ty with
 | int k =>
  simp only [Ty.fits] at hf;split at hf
  ·rename_i j hu
   simp only [Value.okWide,hu] at hv
   exact Ty.one hf' (cells_one fun cs e=>by subst e;simp [Cell.okWide,Cell.ok,hu] at hv) h
  ·cases hf
 | bool =>
  simp only [Ty.fits] at hf;split at hf
  ·rename_i hu
   simp only [Value.okWide,hu] at hv
   exact Ty.one hf' (cells_one fun cs e=>by subst e;simp [Cell.okWide,Cell.ok,hu] at hv) h
  ·cases hf
 | str =>
  simp only [Ty.fits] at hf;split at hf
  ·rename_i hu
   simp only [Value.okWide,hu] at hv
   exact Ty.one hf' (cells_one fun cs e=>by subst e;simp [Cell.okWide,Cell.ok,hu] at hv) h
  ·cases hf
 | sl e =>
  simp only [Ty.fits] at hf;split at hf
  ·rename_i u hu
   simp only [Value.okWide,hu] at hv
   exact Ty.one hf' (cells_one fun cs e=>by subst e;simp [Cell.okWide,Cell.ok,hu] at hv) h
  ·cases hf
 | arr n e =>
  simp only [Ty.fits] at hf;split at hf
  ·rename_i m u hu
   simp only [Value.okWide,hu] at hv
   obtain ⟨cs,rfl,_,_⟩:=hv
   obtain ⟨l,h1,h2⟩:=Ty.agg hf' h
   exact ⟨_,⟨l,rfl,h1⟩,h2⟩
  ·cases hf
 | nil=>simp [Ty.fits] at hf
 | cons f fs =>
  simp only [Ty.fits] at hf;split at hf
  ·rename_i a hu
   simp only [Value.okWide,hu] at hv
   obtain ⟨cs,rfl,_,_⟩:=hv
   obtain ⟨l,h1,h2⟩:=Ty.agg hf' h
   exact ⟨_,⟨l,rfl,h1⟩,h2⟩
  ·cases hf
def Ty.fitsAll (P:Program):List Ty→List TypeId→Bool
 | [],[]=>true
 | ty::tys,t::ts=>ty.fits P (.inl t) && Ty.fitsAll P tys ts
 | _,_=>false
theorem Ty.args:∀ (tys:List Ty) (ts:List TypeId) (vs:List Value) (ds:List (DataW H)) (ps:List MemPlace),Ty.fitsAll P tys ts = true→(∀ (j:Nat) t v,ts[j]? = some t→vs[j]? = some v→Value.okWide P w .any base t v) →
  DataW.TrodAll enc P w 0 spare held ts vs ds ps→∃ xs,Ty.okArgs tys xs∧DRL (allG w) xs vs
 | [],[],vs,ds,ps,_,_,h=>by
  obtain ⟨rfl,rfl,rfl⟩:=trodAll_nil h
  exact ⟨[],trivial,.nil⟩
 | ty::tys,t::ts,vs,ds,ps,hf,hv,h=>by
  obtain ⟨v,vs',d,ds',p,q,rfl,rfl,rfl,h1,h2⟩:=trodAll_cons h
  simp only [Ty.fitsAll,Bool.and_eq_true] at hf
  obtain ⟨x,a1,a2⟩:=Ty.arg hf.1 (hv 0 t v rfl rfl) h1
  obtain ⟨xs,b1,b2⟩:=Ty.args tys ts vs' ds' q hf.2 (fun j t' v' ht hv'=>hv (j+1) t' v' ht hv') h2
  exact ⟨x::xs,⟨a1,b1⟩,.cons a2 b2⟩
 | [],_::_,_,_,_,hf,_,_=>by simp [Ty.fitsAll] at hf
 | _::_,[],_,_,_,hf,_,_=>by simp [Ty.fitsAll] at hf
theorem Ty.walk {f:FuncId} {tys:List Ty} {ts:List TypeId} (h:∀ xs,Ty.okArgs tys xs→PureC P f xs (fun r=>r = .bool true)) {vs:List Value} {ds:List (DataW H)} {ps:List MemPlace} (hf:Ty.fitsAll P tys ts = true)
  (hv:∀ (j:Nat) t v,ts[j]? = some t→vs[j]? = some v→Value.okWide P w .any base t v) (ht:DataW.TrodAll enc P w 0 spare held ts vs ds ps) :
  Calls P f vs.toArray w fun e w'=>e = .returned (.bool true)∧Below w.heap.size w w':=by
 obtain ⟨xs,h1,h2⟩:=Ty.args tys ts vs ds ps hf hv ht
 exact (h xs h1).walk (allG_ok w) h2
theorem Ty.ok_ints {k:IntKind} {l:List V} (h:(Ty.sl (.int k)).ok l):∃ zs:List Int,l = [.sl (zs.map (V.int k)) zs.length]∧zs.length≤maxLen∧∀ z∈zs,(Lit.int k z).wf = true:=by
 obtain ⟨ls,rfl,hl,hx⟩:=h
 suffices hs:∃ zs:List Int,ls.flatten = zs.map (V.int k)∧zs.length = ls.length∧∀ z∈zs,(Lit.int k z).wf = true by
  obtain ⟨zs,e,e2,hw⟩:=hs
  exact ⟨zs,by rw [e,e2],by omega,hw⟩
 clear hl
 induction ls with
 | nil=>exact ⟨[],rfl,rfl,fun _ h=>by cases h⟩
 | cons x ls ih =>
  obtain ⟨zs,e,e2,hw⟩:=ih fun y hy=>hx y (List.mem_cons_of_mem _ hy)
  obtain ⟨z,rfl,hz⟩:=hx x (by simp)
  refine ⟨z::zs,by rw [List.flatten_cons,e];rfl,by simp [e2],fun y hy=>?_⟩
  rcases List.mem_cons.1 hy with rfl | hy
  ·exact hz
  ·exact hw y hy
theorem i64_rng {a:Int} (h:(Lit.int .i64 a).wf = true):-9223372036854775808≤a∧a < 9223372036854775808:=by
 simp [Lit.wf,IntKind.min,IntKind.max,IntKind.bits,IntKind.signed] at h
 omega
theorem okArgs_cons {t:Ty} {ts:List Ty} {xs:List V} (h:Ty.okArgs (t::ts) xs):∃ x l,xs = x::l∧t.okArg x∧Ty.okArgs ts l:=by
 cases xs with
 | nil=>exact h.elim
 | cons x l=>exact ⟨x,l,rfl,h.1,h.2⟩
theorem okArgs_nil {xs:List V} (h:Ty.okArgs [] xs):xs = []:=by
 cases xs with
 | nil=>rfl
 | cons x l=>exact h.elim
theorem okArg_i64 {x:V} (h:(Ty.int .i64).okArg x):∃ z,x = .int .i64 z∧-9223372036854775808≤z∧z < 9223372036854775808:=by
 obtain ⟨z,e,hz⟩:=h
 exact ⟨z,by simpa using e,i64_rng hz⟩
theorem okArg_sl {e:Ty} {x:V} (h:(Ty.sl e).okArg x):∃ ls:List (List V),x = .sl ls.flatten ls.length∧ls.length≤maxLen∧∀ y∈ls,e.ok y:=by
 obtain ⟨ls,e,hl,hx⟩:=h
 exact ⟨ls,by simpa using e,hl,hx⟩
theorem ok_longs {l:List V} (h:(Ty.sl (.int .i64)).ok l):∃ zs:List Int,l = [.sl (zs.map (V.int .i64)) zs.length]∧zs.length≤maxLen∧∀ z∈zs,-9223372036854775808≤z∧z < 9223372036854775808:=by
 obtain ⟨zs,e,hl,hw⟩:=Ty.ok_ints h
 exact ⟨zs,e,hl,fun z hz=>i64_rng (hw z hz)⟩
end
end Go.Dp
