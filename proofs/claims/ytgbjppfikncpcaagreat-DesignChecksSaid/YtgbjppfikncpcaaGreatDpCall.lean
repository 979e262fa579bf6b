/- Contracts of calls; what a call gives back is opened as objects of the caller's own. -/
import Derived.Test.YtgbjppfikncpcaaGreatDpFrz
namespace Go.Dp
open Go.RowKit
set_option linter.unusedSimpArgs false
section
variable {w w0:World} {G:Gm} {σ:Sg} {H H':Hp} {D:Nat→Prop}
theorem Rel.adopt (h:Rel w0 G σ H D w) {id:Nat} (hid:¬ D id) {b:Nat} {arr:Array Value} {t:TypeId} (hb:w.heap[b]? = some (.cells arr t (0,0))) (hlo:w0.heap.size≤b) (hG:∀ o v,G b o≠some v) (hL:¬ Lives σ H b)
  {cells:List V} (hl:cells.length≤arr.size) (hv:∀ (i:Nat) (v:V),cells[i]? = some v→∃ x:Value,arr[i]? = some x∧VR G σ v x∧x.oneCell' = true) (sz nl:Nat) (hnl:nl≠1) :
  ∃ σ',SExt σ σ'∧σ' id 0 = some (some ⟨b,arr.size,sz⟩)∧(∀ o,o≠id→σ' o = σ o)∧Rel w0 G σ' (H.put id { cells,sz,nl }) (fun o=>D o∨o = id) w:=by
 have hnone:∀ ver,σ id ver = none:=fun ver=>by
  cases e:σ id ver with
  | none=>rfl
  | some x=>exact absurd (h.dom _ _ _ e) hid
 let σ':Sg:=fun o ver=>if o = id then (if ver = 0 then some (some ⟨b,arr.size,sz⟩) else none) else σ o ver
 have hse:SExt σ σ':=fun o ver x e=>by
  by_cases ho:o = id
  ·subst ho;rw [hnone] at e;cases e
  ·simpa [σ',ho] using e
 refine ⟨σ',hse,by simp [σ'],(fun o ho=>by funext ver;simp [σ',ho]),⟨h.old,h.gok,?_,?_,?_,?_,?_⟩⟩
 ·intro o ver x e
  by_cases ho:o = id
  ·exact .inr ho
  ·simp [σ',ho] at e;exact .inl (h.dom _ _ _ e)
 ·intro o ob e
  by_cases ho:o = id
  ·exact .inr ho
  ·simp [Hp.put,ho] at e;exact .inl (h.hdom _ _ e)
 ·intro o ob e
  by_cases ho:o = id
  ·subst ho
   simp [Hp.put] at e
   subst e
   refine .inl ⟨⟨b,arr.size,sz⟩,by simp [σ'],hlo,⟨hnl,rfl,rfl,⟨arr,t,hb,rfl,hl,?_⟩,?_⟩⟩
   ·intro i v hi
    obtain ⟨x,hx,hr,h1⟩:=hv i v hi
    exact ⟨x,hx,hr.mono (GExt.refl _) hse,h1⟩
   ·intro o v e;exact absurd e (hG o v)
  ·simp [Hp.put,ho] at e
   rcases h.obs o ob e with ⟨B,hB,hlo,hob⟩ | ⟨hn,hr⟩ | ⟨B,hB,hB0,hlo,hob⟩
   ·exact .inl ⟨B,hse _ _ _ hB,hlo,hob.mono hse rfl⟩
   ·exact .inr (.inl ⟨hse _ _ _ hn,hr⟩)
   ·exact .inr (.inr ⟨B,hse _ _ _ hB,hse _ _ _ hB0,hlo,hob.mono (GExt.refl _) hse rfl⟩)
 ·intro o o' ob ob' B B' e e' hs hs' hbb
  by_cases ho:o = id <;> by_cases ho':o' = id
  ·rw [ho,ho']
  ·exfalso
   simp [Hp.put,ho'] at e'
   simp [σ',ho'] at hs'
   subst ho
   simp [Hp.put] at e;subst e
   simp [σ'] at hs;subst hs
   exact hL ⟨o',ob',B',e',hs',hbb.symm⟩
  ·exfalso
   simp [Hp.put,ho] at e
   simp [σ',ho] at hs
   subst ho'
   simp [Hp.put] at e';subst e'
   simp [σ'] at hs';subst hs'
   exact hL ⟨o,ob,B,e,hs,hbb⟩
  ·simp [Hp.put,ho] at e
   simp [Hp.put,ho'] at e'
   simp [σ',ho] at hs
   simp [σ',ho'] at hs'
   exact h.inj o o' ob ob' B B' e e' hs hs' hbb
 ·intro o ob ver x e hs
  by_cases ho:o = id
  ·subst ho
   simp [Hp.put] at e;subst e
   simp [σ'] at hs
   simp [hs.1]
  ·simp [Hp.put,ho] at e
   simp [σ',ho] at hs
   exact h.vers o ob ver x e hs
abbrev OpnF:=V→Nat→Hp→Option (V × Hp × Nat)
def opnL (f:OpnF):List V→Nat→Hp→Option (List V × Hp × Nat)
 | [],id,H=>some ([],H,id)
 | v::l,id,H=>(f v id H).bind fun r=>(opnL f l r.2.2 r.2.1).map fun q=>(r.1::q.1,q.2)
def opn0:OpnF
 | .own cells len sz,id,H=>some (.ref id 0 0 len,H.put id { cells:=cells,sz:=sz,nl:=if cells.isEmpty then 2 else 0 },id+1)
 | .agg _,_,_=>none
 | .tup _,_,_=>none
 | v,id,H=>some (v,H,id)
def opn:Nat→OpnF
 | 0,v,id,H=>opn0 v id H
 | n+1,v,id,H=>match v with
  | .agg l=>(opnL (opn n) l id H).map fun r=>(.agg r.1,r.2)
  | .tup l=>(opnL (opn n) l id H).map fun r=>(.tup r.1,r.2)
  | v=>opn0 v id H
theorem opnL_le {f:OpnF} (hf:∀ v id H d H' id',f v id H = some (d,H',id')→id≤id'):∀ {l:List V} {id:Nat} {H:Hp} {ds:List V} {H':Hp} {id':Nat},opnL f l id H = some (ds,H',id')→id≤id'
 | [],_,_,_,_,_,h=>by simp [opnL] at h;omega
 | v::l,id,H,ds,H',id',h=>by
  simp only [opnL,Option.bind_eq_some_iff,Option.map_eq_some_iff] at h
  obtain ⟨⟨d,H1,id1⟩,h1,⟨ds',H2,id2⟩,h2,e⟩:=h
  cases e
  exact Nat.le_trans (hf _ _ _ _ _ _ h1) (opnL_le hf h2)
theorem opn0_le {v:V} {id:Nat} {H:Hp} {d:V} {H':Hp} {id':Nat} (h:opn0 v id H = some (d,H',id')):id≤id':=by
 unfold opn0 at h
 split at h <;> simp at h <;> omega
theorem opn_le:∀ (n:Nat) {v:V} {id:Nat} {H:Hp} {d:V} {H':Hp} {id':Nat},opn n v id H = some (d,H',id')→id≤id'
 | 0,_,_,_,_,_,_,h=>opn0_le h
 | n+1,v,id,H,d,H',id',h=>by
  simp only [opn] at h
  split at h
  ·simp only [Option.map_eq_some_iff] at h
   obtain ⟨⟨l',H1,i1⟩,h1,e⟩:=h
   cases e
   exact opnL_le (fun _ _ _ _ _ _=>opn_le n) h1
  ·simp only [Option.map_eq_some_iff] at h
   obtain ⟨⟨l',H1,i1⟩,h1,e⟩:=h
   cases e
   exact opnL_le (fun _ _ _ _ _ _=>opn_le n) h1
  ·exact opn0_le h
def OpnOut (w0 w:World) (G:Gm) (σ:Sg) (H H':Hp) (D:Nat→Prop) (id id':Nat) (bs:List Nat) (P:Sg→Prop):Prop :=
 id≤id'∧∃ σ',SExt σ σ'∧Rel w0 G σ' H' (fun o=>D o∨(id≤o∧o < id')) w∧(∀ b,Lives σ' H' b→Lives σ H b∨b∈bs)∧P σ'
theorem opnL_sound {f:OpnF} (hle:∀ v id H d H' id',f v id H = some (d,H',id')→id≤id') (hf:∀ (v:V) (x:Value) (d:V) (σ:Sg) (H H':Hp) (D:Nat→Prop) (id id':Nat) (bs:List Nat),f v id H = some (d,H',id')→Rel w0 G σ H D w→(∀ j,id≤j→j < id'→¬ D j)→OwnR G w w0.heap.size v x bs→bs.Nodup→Away σ H bs →
   OpnOut w0 w G σ H H' D id id' bs (fun σ'=>VR G σ' d x)) :
  ∀ {l:List V} {vs:List Value} {ds:List V} {σ:Sg} {H H':Hp} {D:Nat→Prop} {id id':Nat} {bs:List Nat},opnL f l id H = some (ds,H',id')→Rel w0 G σ H D w→(∀ j,id≤j→j < id'→¬ D j)→OwnRL G w w0.heap.size l vs bs→bs.Nodup→Away σ H bs →
   OpnOut w0 w G σ H H' D id id' bs (fun σ'=>VRL G σ' ds vs)
 | [],_,ds,σ,H,H',D,id,id',_,h,hrel,hid,.nil,hn,ha=>by
  simp [opnL] at h;obtain ⟨rfl,rfl,rfl⟩:=h
  exact ⟨Nat.le_refl _,σ,SExt.refl _,hrel.weaken fun _=>.inl,fun b hb=>.inl hb,.nil⟩
 | v::l,_,ds,σ,H,H',D,id,id',_,h,hrel,hid,.cons (b1:=b1) (b2:=b2) hv ht,hn,ha=>by
  simp only [opnL,Option.bind_eq_some_iff,Option.map_eq_some_iff] at h
  obtain ⟨⟨d,H1,id1⟩,h1,⟨ds',H2,id2⟩,h2,e⟩:=h
  dsimp only at h2
  cases e
  rw [List.nodup_append] at hn
  obtain ⟨n1,n2,n3⟩:=hn
  have le12:=hle _ _ _ _ _ _ h1
  have le22:=opnL_le hle h2
  obtain ⟨le1,σ1,hs1,hr1,hl1,hv1⟩:=hf _ _ _ _ _ _ _ _ _ _ h1 hrel (fun j a b=>hid j a (by omega)) hv n1 (fun b hb=>ha b (List.mem_append_left _ hb))
  obtain ⟨le2,σ2,hs2,hr2,hl2,hv2⟩:=opnL_sound hle hf h2 hr1 (fun j hj hj' hd=>by
   rcases hd with hd | hd
   ·exact hid j (by omega) hj' hd
   ·omega) ht n2 (fun b hb hl=>by
    rcases hl1 b hl with hl | hl
    ·exact ha b (List.mem_append_right _ hb) hl
    ·exact n3 b hl b hb rfl)
  refine ⟨by omega,σ2,hs1.trans hs2,hr2.weaken ?_,fun b hb=>?_,.cons (hv1.mono (GExt.refl _) hs2) hv2⟩
  ·rintro o ((hd | hd) | hd)
   ·exact .inl hd
   ·exact .inr (by omega)
   ·exact .inr (by omega)
  ·rcases hl2 b hb with hb | hb
   ·rcases hl1 b hb with hb | hb
    ·exact .inl hb
    ·exact .inr (List.mem_append_left _ hb)
   ·exact .inr (List.mem_append_right _ hb)
theorem lives_put {o:Nat} {ob:Ob} {b:Nat} {σ':Sg} (h:Lives σ' (H.put o ob) b) (hs:∀ o',o'≠o→σ' o' = σ o'):Lives σ H b∨∃ B,σ' o ob.ver = some (some B)∧B.b = b:=by
 obtain ⟨o',ob',B,e,hB,hb⟩:=h
 by_cases ho:o' = o
 ·subst ho;simp [Hp.put] at e;subst e;exact .inr ⟨B,hB,hb⟩
 ·simp [Hp.put,ho] at e
  rw [hs o' ho] at hB
  exact .inl ⟨o',ob',B,e,hB,hb⟩
theorem opn0_sound (v:V) (x:Value) (d:V) (σ:Sg) (H H':Hp) (D:Nat→Prop) (id id':Nat) (bs:List Nat) (h:opn0 v id H = some (d,H',id')) (hrel:Rel w0 G σ H D w) (hid:∀ j,id≤j→j < id'→¬ D j)
  (hv:OwnR G w w0.heap.size v x bs) (ha:Away σ H bs):OpnOut w0 w G σ H H' D id id' bs (fun σ'=>VR G σ' d x):=by
 unfold opn0 at h
 split at h
 ·simp only [Option.some.injEq,Prod.mk.injEq] at h
  obtain ⟨rfl,rfl,rfl⟩:=h
  have hd:∀ o,(D o∨o = id)→(D o∨(id≤o∧o < id+1)):=fun o ho=>ho.imp (fun h=>h) (fun e=>by omega)
  cases hv with
  | deep hd=>cases hd
  | own0 =>
   obtain ⟨σ',hs,hz,ho,hr⟩:=hrel.adoptNil (hid id (Nat.le_refl _) (by omega)) _ 2 (by omega)
   refine ⟨by omega,σ',hs,by simpa using hr.weaken hd,fun b hb=>?_,.ref0 hz⟩
   rcases lives_put hb ho with hb | ⟨B,hB,_⟩
   ·exact .inl hb
   ·rw [hz] at hB;cases hB
  | own h1 h2 h3 h4 h5 h6 h7 =>
   rename_i cells len sz b c arr t
   obtain ⟨σ',hs,hz,ho,hr⟩:=hrel.adopt (hid id (Nat.le_refl _) (by omega)) h2 h1 h3 (ha b (by simp)) h6 (fun i v e=>let ⟨x,hx,hr,ho⟩:=h7 i v e;⟨x,hx,.deep hr,ho⟩) sz (if cells.isEmpty then 2 else 0) (by split <;> omega)
   refine ⟨by omega,σ',hs,hr.weaken hd,fun b' hb=>?_,.ref hz h4 (by simpa using h5)⟩
   rcases lives_put hb ho with hb | ⟨B,hB,hbb⟩
   ·exact .inl hb
   ·rw [hz] at hB;cases hB;exact .inr (by simpa using hbb.symm)
 ·cases h
 ·cases h
 ·rename_i h1 h2 h3
  simp only [Option.some.injEq,Prod.mk.injEq] at h
  obtain ⟨rfl,rfl,rfl⟩:=h
  refine ⟨Nat.le_refl _,σ,SExt.refl _,hrel.weaken fun _=>.inl,fun b hb=>.inl hb,?_⟩
  cases hv with
  | deep hd=>exact .deep hd
  | own0=>exact absurd rfl (h1 _ _ _)
  | own=>exact absurd rfl (h1 _ _ _)
  | agg=>exact absurd rfl (h2 _)
  | tup=>exact absurd rfl (h3 _)
theorem OwnR.agg_inv {lo:Nat} {l:List V} {x:Value} {bs:List Nat} (h:OwnR G w lo (.agg l) x bs):∃ vs,x = .agg vs.toArray∧OwnRL G w lo l vs bs∧Ones vs:=by
 have dl:∀ {l:List V} {vs:List Value},DRL G l vs→OwnRL G w lo l vs []:=by
  intro l
  induction l with
  | nil=>intro vs h;cases h;exact .nil
  | cons v l ih=>intro vs h;cases h with | cons h t=>simpa using OwnRL.cons (b1:=[]) (b2:=[]) (.deep h) (ih t)
 cases h with
 | deep h=>cases h with | agg h h1=>exact ⟨_,rfl,dl h,h1⟩
 | agg h h1=>exact ⟨_,rfl,h,h1⟩
theorem OwnR.tup_inv {lo:Nat} {l:List V} {x:Value} {bs:List Nat} (h:OwnR G w lo (.tup l) x bs):∃ vs,x = .tuple vs.toArray∧OwnRL G w lo l vs bs:=by
 have dl:∀ {l:List V} {vs:List Value},DRL G l vs→OwnRL G w lo l vs []:=by
  intro l
  induction l with
  | nil=>intro vs h;cases h;exact .nil
  | cons v l ih=>intro vs h;cases h with | cons h t=>simpa using OwnRL.cons (b1:=[]) (b2:=[]) (.deep h) (ih t)
 cases h with
 | deep h=>cases h with | tup h=>exact ⟨_,rfl,dl h⟩
 | tup h=>exact ⟨_,rfl,h⟩
theorem opn_sound:∀ (n:Nat) (v:V) (x:Value) (d:V) (σ:Sg) (H H':Hp) (D:Nat→Prop) (id id':Nat) (bs:List Nat),opn n v id H = some (d,H',id')→Rel w0 G σ H D w→(∀ j,id≤j→j < id'→¬ D j)→OwnR G w w0.heap.size v x bs→bs.Nodup→Away σ H bs →
  OpnOut w0 w G σ H H' D id id' bs (fun σ'=>VR G σ' d x)
 | 0,v,x,d,σ,H,H',D,id,id',bs,h,hrel,hid,hv,_,ha=>opn0_sound v x d σ H H' D id id' bs h hrel hid hv ha
 | n+1,v,x,d,σ,H,H',D,id,id',bs,h,hrel,hid,hv,hn,ha=>by
  simp only [opn] at h
  split at h
  ·simp only [Option.map_eq_some_iff] at h
   obtain ⟨⟨l',H1,i1⟩,h1,e⟩:=h
   cases e
   obtain ⟨vs,rfl,hl,hones⟩:=hv.agg_inv
   obtain ⟨a1,σ',a2,a3,a4,a5⟩:=opnL_sound (fun _ _ _ _ _ _=>opn_le n) (opn_sound n) h1 hrel hid hl hn ha
   exact ⟨a1,σ',a2,a3,a4,.agg a5 hones⟩
  ·simp only [Option.map_eq_some_iff] at h
   obtain ⟨⟨l',H1,i1⟩,h1,e⟩:=h
   cases e
   obtain ⟨vs,rfl,hl⟩:=hv.tup_inv
   obtain ⟨a1,σ',a2,a3,a4,a5⟩:=opnL_sound (fun _ _ _ _ _ _=>opn_le n) (opn_sound n) h1 hrel hid hl hn ha
   exact ⟨a1,σ',a2,a3,a4,.tup a5⟩
  ·exact opn0_sound v x d σ H H' D id id' bs h hrel hid hv ha
end
def ResR (G:Gm) (w:World) (r:V) (x:Value) (w':World):Prop :=
 Below w.heap.size w w'∧∃ G' bs,GExt G G'∧GOk G' w'∧(∀ b o v,G' b o = some v→G b o = some v∨w.heap.size≤b)∧OwnR G' w' w.heap.size r x bs∧bs.Nodup
def Goes (P:Program) (f:FuncId):Prop:=∀ (args:Array Value) (w:World),(callFunc f args).run P w = .ok (.enter f args) w
theorem goes_of {P : Program} {f : FuncId} {fn : Func} {c : Code} (hf : P.funcs[f]? = some fn) (hname : (fn.name == "runtime.NumGoroutine") = false) (hb : fn.body = some c) : Goes P f := fun args w => by
 have h1 : fn.name ≠ "runtime.NumGoroutine" := by simpa using hname
 simp [callFunc,hf,h1,hb]
def PureC (P:Program) (f:FuncId) (ds:List V) (R:V→Prop):Prop :=
 Goes P f∧∀ (G:Gm) (w:World) (vals:List Value),GOk G w→DRL G ds vals→CallsIn Fence.wide 0 P f vals.toArray w fun e w'=>∃ r x,e = .returned x∧R r∧ResR G w r x w'
theorem PureC.mono {P:Program} {f:FuncId} {ds:List V} {R R':V→Prop} (h:PureC P f ds R) (hr:∀ r,R r→R' r):PureC P f ds R' :=
 ⟨h.1,fun G w vals hG hd=>(h.2 G w vals hG hd).mono fun _ _ ⟨r,x,e,h1,h2⟩=>⟨r,x,e,hr r h1,h2⟩⟩
def Post (w0 w:World) (G:Gm) (σ:Sg) (H:Hp) (D:Nat→Prop) (top:Nat) (K:V→Hp→Nat→Prop) (e:Ending) (w':World):Prop :=
 ∃ r x H' top' G' σ',e = .returned x∧K r H' top'∧top≤top'∧(∀ j,j < top→H j = none→H' j = none)∧NC w w'∧GExt G G'∧(∀ b o v,G' b o = some v→G b o = some v∨w0.heap.size≤b)∧SExt σ σ' ∧
   Rel w0 G' σ' H' (fun o=>D o∨(top≤o∧o < top')) w'∧VR G' σ' r x
abbrev YH:=List V→Hp→Nat→(V→Hp→Nat→Prop)→Prop
abbrev Ys:=Nat→Option YH
def Ys.none:Ys:=fun _=>.none
def Ys.put (Y:Ys) (o:Nat) (y:YH):Ys:=fun i=>if i = o then some y else Y i
def YEx (Y:Ys):Prop:=∀ o y,Y o = some y→∀ vs H top K,y vs H top K→∃ v H' t,K v H' t∧top≤t∧∀ j,j < top→H j = Option.none→H' j = Option.none
def YOk (P:Program) (w0:World) (Y:Ys) (G:Gm) (σ:Sg) (wE:World):Prop :=
 YEx Y∧∀ o y,Y o = some y→∃ B,σ o 0 = some (some B) ∧
  ∀ (w:World) (G':Gm) (σ':Sg) (H:Hp) (D:Nat→Prop) (vs:List V) (vals:List Value) (top:Nat) (K:V→Hp→Nat→Prop),GExt G G'→SExt σ σ'→NC wE w→w0.heap.size≤wE.heap.size→Rel w0 G' σ' H D w→(∀ j,top≤j→¬ D j)→VRL G' σ' vs vals→y vs H top K →
   ∃ f tmps asg body,(Instr.yield B.b vals.toArray).run P w = .ok (.round B.b f tmps asg body) w∧RoundIn Fence.wide 0 P B.b f tmps asg body w (Post w0 w G' σ' H D top K)
theorem YOk.none {P:Program} {w0:World} {G:Gm} {σ:Sg} {wE:World}:YOk P w0 Ys.none G σ wE :=
 ⟨fun _ _ e=>absurd e (by simp [Ys.none]),fun _ _ e=>absurd e (by simp [Ys.none])⟩
theorem YOk.mono {P:Program} {w0:World} {Y:Ys} {G G':Gm} {σ σ':Sg} {wE w:World} (h:YOk P w0 Y G σ wE) (hE:w0.heap.size≤wE.heap.size) (hG:GExt G G') (hs:SExt σ σ') (hn:NC wE w):YOk P w0 Y G' σ' w :=
 ⟨h.1,fun o y e=>let ⟨B,hB,k⟩:=h.2 o y e;⟨B,hs _ _ _ hB,fun w' G2 σ2 H D vs vals top K a b c _=>k w' G2 σ2 H D vs vals top K (hG.trans a) (hs.trans b) (hn.trans c) hE⟩⟩
def RefC (P:Program) (Y:Ys) (f:FuncId) (vs:List V) (H:Hp) (top:Nat) (R:V→Hp→Nat→Prop):Prop :=
 Goes P f∧∀ (w0 w:World) (G:Gm) (σ:Sg) (D:Nat→Prop) (vals:List Value),Rel w0 G σ H D w→(∀ j,top≤j→¬ D j)→VRL G σ vs vals→YOk P w0 Y G σ w →
  CallsIn Fence.wide 0 P f vals.toArray w (Post w0 w G σ H D top R)
theorem RefC.mono {P:Program} {Y:Ys} {f:FuncId} {vs:List V} {H:Hp} {top:Nat} {R R':V→Hp→Nat→Prop} (h:RefC P Y f vs H top R) (hr:∀ r H' t,R r H' t→R' r H' t):RefC P Y f vs H top R' :=
 ⟨h.1,fun w0 w G σ D vals h1 h2 h3 h4=>(h.2 w0 w G σ D vals h1 h2 h3 h4).mono fun _ _ ⟨r,x,H',t',G',σ',e,a,b⟩=>⟨r,x,H',t',G',σ',e,hr _ _ _ a,b⟩⟩
theorem RefC.any {P:Program} {Y:Ys} {f:FuncId} {vs:List V} {H:Hp} {top:Nat} {R:V→Hp→Nat→Prop} (h:RefC P Ys.none f vs H top R):RefC P Y f vs H top R :=
 ⟨h.1,fun w0 w G σ D vals h1 h2 h3 _=>h.2 w0 w G σ D vals h1 h2 h3 YOk.none⟩
def mapO (f:V→Option V):List V→Option (List V)
 | []=>some []
 | v::l=>(f v).bind fun d=>(mapO f l).map fun m=>d::m
def thaw:Nat→V→Option V
 | 0,v=>match v with | .own cells len _=>some (.sl cells len) | .agg _=>none | .tup _=>none | v=>some v
 | n+1,v=>match v with
  | .own cells len _=>some (.sl cells len)
  | .agg l=>(mapO (thaw n) l).map V.agg
  | .tup l=>(mapO (thaw n) l).map V.tup
  | v=>some v
theorem thaw_dr {G:Gm}:∀ (n:Nat) {v d:V} {x:Value},DR G v x→thaw n v = some d→d = v
 | 0,v,d,x,h,e=>by cases h <;> simp [thaw] at e <;> first | exact e.symm | exact absurd e (by simp)
 | n+1,v,d,x,h,e=>by
  have lst:∀ {l m:List V} {vs:List Value},DRL G l vs→mapO (thaw n) l = some m→m = l:=by
   intro l
   induction l with
   | nil=>intro m vs _ e;simp [mapO] at e;exact e.symm ▸ rfl
   | cons v l ih =>
    intro m vs h e
    cases h with
    | cons h t =>
     simp only [mapO,Option.bind_eq_some_iff,Option.map_eq_some_iff] at e
     obtain ⟨d,hd,m',hm,rfl⟩:=e
     rw [thaw_dr n h hd,ih t hm]
  cases h <;> simp [thaw] at e
  case agg h h1=>obtain ⟨m,hm,rfl⟩:=e;rw [lst h hm]
  case tup h=>obtain ⟨m,hm,rfl⟩:=e;rw [lst h hm]
  all_goals exact e.symm
def Gm.with (G:Gm) (w:World) (bs:List Nat):Gm:=fun b o=>if b∈bs then w.cell? ⟨b,o,none⟩ else G b o
theorem Gm.with_ext {G:Gm} {w:World} (hG:GOk G w) (bs:List Nat):GExt G (G.with w bs):=fun b o v e=>by
 simp only [Gm.with];split
 ·exact hG b o v e
 ·exact e
theorem Rel.thaw {w w0:World} {G:Gm} {σ:Sg} {H:Hp} {D:Nat→Prop} (h:Rel w0 G σ H D w) {bs:List Nat} (ha:Away σ H bs):Rel w0 (G.with w bs) σ H D w:=by
 have hx:=Gm.with_ext h.gok bs
 refine ⟨h.old,fun b o v e=>?_,h.dom,h.hdom,fun o ob e=>?_,h.inj,h.vers⟩
 ·simp only [Gm.with] at e;split at e
  ·exact e
  ·exact h.gok b o v e
 ·rcases h.obs o ob e with ⟨B,hB,hlo,ho⟩ | hn | ⟨B,hB,hB0,hlo,ho⟩
  rotate_left 2
  ·exact .inr (.inr ⟨B,hB,hB0,hlo,ho.mono hx (SExt.refl _) rfl⟩)
  ·refine .inl ⟨B,hB,hlo,ho.nl,ho.sp,ho.sz,?_,fun i v e'=>?_⟩
   ·obtain ⟨c,t,a1,a2,a3,a4⟩:=ho.blk
    exact ⟨c,t,a1,a2,a3,fun i v e=>let ⟨x,b1,b2,b3⟩:=a4 i v e;⟨x,b1,b2.mono hx (SExt.refl _),b3⟩⟩
   ·simp only [Gm.with] at e';split at e'
    ·rename_i hin;exact absurd ⟨o,ob,B,e,hB,rfl⟩ (ha _ hin)
    ·exact ho.gsep i v e'
  ·exact .inr (.inl hn)
mutual
theorem OwnR.lo {G:Gm} {w:World} {lo:Nat}:∀ {v:V} {x:Value} {bs:List Nat},OwnR G w lo v x bs→∀ b∈bs,lo≤b
 | _,_,_,.deep _,b,hb=>by simp at hb
 | _,_,_,.own0 _,b,hb=>by simp at hb
 | _,_,_,.own h1 _ _ _ _ _ _,b,hb=>by simp at hb;subst hb;exact h1
 | _,_,_,.agg h _,b,hb=>h.lo b hb
 | _,_,_,.tup h,b,hb=>h.lo b hb
theorem OwnRL.lo {G:Gm} {w:World} {lo:Nat}:∀ {v:List V} {x:List Value} {bs:List Nat},OwnRL G w lo v x bs→∀ b∈bs,lo≤b
 | _,_,_,.nil,b,hb=>by simp at hb
 | _,_,_,.cons h t,b,hb=>by
  rcases List.mem_append.1 hb with hb | hb
  ·exact h.lo b hb
  ·exact t.lo b hb
end
theorem thaw_sound {G:Gm} {w:World} (hG:GOk G w) {lo:Nat} {bs0:List Nat}:∀ (n:Nat) {v d:V} {x:Value} {bs:List Nat},OwnR G w lo v x bs→(∀ b∈bs,b∈bs0)→thaw n v = some d→DR (G.with w bs0) d x
 | n,v,d,x,bs,h,hb,e=>by
  have hx:=Gm.with_ext hG bs0
  cases h with
  | deep h=>rw [thaw_dr n h e];exact h.mono hx
  | own0=>cases n <;> (simp [thaw] at e;subst e;exact .sl0 _ _)
  | own h1 h2 h3 h4 h5 h6 h7 =>
   rename_i cells len sz b c arr t
   have:d = .sl cells len:=by cases n <;> (simp [thaw] at e;exact e.symm)
   subst this
   have hin:b∈bs0:=hb b (by simp)
   have hl:(arr.toList.take cells.length).length = cells.length:=by simp;omega
   refine .sl (vs:=arr.toList.take cells.length) (DRL.of_get hl.symm fun i v e=>?_) (fun i v e=>?_) h4 (fun y hy=>?_)
   ·obtain ⟨y,hy,hr,_⟩:=h7 i v e
    have hi:i < cells.length:=(List.getElem?_eq_some_iff.1 e).1
    exact ⟨y,by rw [List.getElem?_take,if_pos hi];simpa using hy,hr.mono hx⟩
   ·rw [List.getElem?_take] at e
    split at e
    ·simp only [Gm.with,hin,if_true,Nat.zero_add]
     have hc:arr[i]? = some v:=by simpa using e
     simp only [World.cell?,h2]
     exact hc
    ·cases e
   ·obtain ⟨i,hi⟩:=List.getElem?_of_mem hy
    rw [List.getElem?_take] at hi
    split at hi
    ·rename_i hlt
     obtain ⟨y',hy',_,ho⟩:=h7 i cells[i] (by simp [hlt])
     have:arr[i]? = some y:=by simpa using hi
     rw [this] at hy';cases hy';exact ho
    ·cases hi
  | agg h h1 =>
   cases n with
   | zero=>simp [thaw] at e
   | succ n =>
    simp [thaw] at e
    obtain ⟨m,hm,rfl⟩:=e
    have lst:∀ {l m:List V} {vs:List Value} {bs:List Nat},OwnRL G w lo l vs bs→(∀ b∈bs,b∈bs0)→mapO (thaw n) l = some m→DRL (G.with w bs0) m vs:=by
     intro l
     induction l with
     | nil=>intro m vs bs h _ e;cases h;simp [mapO] at e;subst e;exact .nil
     | cons v l ih =>
      intro m vs bs h hb e
      cases h with
      | cons h t =>
       simp only [mapO,Option.bind_eq_some_iff,Option.map_eq_some_iff] at e
       obtain ⟨d,hd,m',hm,rfl⟩:=e
       exact .cons (thaw_sound hG n h (fun b hh=>hb b (List.mem_append_left _ hh)) hd) (ih t (fun b hh=>hb b (List.mem_append_right _ hh)) hm)
    exact .agg (lst h hb hm) h1
  | tup h =>
   cases n with
   | zero=>simp [thaw] at e
   | succ n =>
    simp [thaw] at e
    obtain ⟨m,hm,rfl⟩:=e
    have lst:∀ {l m:List V} {vs:List Value} {bs:List Nat},OwnRL G w lo l vs bs→(∀ b∈bs,b∈bs0)→mapO (thaw n) l = some m→DRL (G.with w bs0) m vs:=by
     intro l
     induction l with
     | nil=>intro m vs bs h _ e;cases h;simp [mapO] at e;subst e;exact .nil
     | cons v l ih =>
      intro m vs bs h hb e
      cases h with
      | cons h t =>
       simp only [mapO,Option.bind_eq_some_iff,Option.map_eq_some_iff] at e
       obtain ⟨d,hd,m',hm,rfl⟩:=e
       exact .cons (thaw_sound hG n h (fun b hh=>hb b (List.mem_append_left _ hh)) hd) (ih t (fun b hh=>hb b (List.mem_append_right _ hh)) hm)
    exact .tup (lst h hb hm)
def CallW (P:Program) (Y:Ys) (fl:Nat) (f:FuncId) (vs:List V) (H:Hp) (id top:Nat) (K:V→Hp→Nat→Prop):Prop :=
 match fl with
 | 0=>∃ ds H1 R,mapS (frz 12) vs H = some (ds,H1)∧PureC P f ds R∧(∃ r,R r)∧∀ r,R r→∃ d,thaw 4 r = some d∧K d H1 top
 | 1=>∃ ds H1 R,mapS (frz 12) vs H = some (ds,H1)∧PureC P f ds R∧(∃ r,R r)∧∀ r,R r→∃ r' H2 id',opn 3 r id H1 = some (r',H2,id')∧id'≤id+8∧K r' H2 top
 | _=>∃ R,RefC P Y f vs H top R∧(∃ r H' t,R r H' t∧top≤t∧∀ j,j < top→H j = none→H' j = none)∧∀ r H' top',R r H' top'→top≤top'→(∀ j,j < top→H j = none→H' j = none)→K r H' top'
inductive Tgt where
 | fn (f:FuncId)
 | yl (o:Nat)
def CallT (P:Program) (Y:Ys) (fl:Nat) (g:Tgt) (vs:List V) (H:Hp) (id top:Nat) (K:V→Hp→Nat→Prop):Prop :=
 match g with
 | .fn f=>CallW P Y fl f vs H id top K
 | .yl o=>2≤fl∧∃ y K0,Y o = some y∧(∀ v H' t,K0 v H' t→top≤t→(∀ j,j < top→H j = none→H' j = none)→K v H' t)∧y vs H top K0
end Go.Dp
