/- The logic's code, the check that it is the model's, and what it must achieve. -/
import Derived.Test.YtgbjppfikncpcaaGreatDpCall
import Derived.ControlIn
import Derived.OrdersIn
namespace Go.Dp
open Go.RowKit
set_option linter.unusedSimpArgs false
abbrev Env:=List (Nat × V)
def look (n:Nat):Env→Option V
 | []=>none
 | (k,v)::l=>if k = n then some v else look n l
def rdE (E:Env):Opd→Option V
 | .t n=>look n E
 | .c v=>some v
def putE (d:Option Nat) (v:V) (E:Env):Env:=match d with | some n=>(n,v)::E | none=>E
def keepE (E:Env):List Nat→Env
 | []=>[]
 | n::l=>match look n E with | some v=>(n,v)::keepE E l | none=>keepE E l
structure Opr where
 i:Nat
 dst:Option Nat
 op:IOp
 fl:Nat:=0
 g:Option (Nat × Bool):=none
inductive C where
 | skip
 | reg (draw:Bool) (ops:List Opr) (keep:List Nat)
 | seq (a b:C)
 | cond (c:Opd) (a b:C)
 | blk (id:Nat) (a:C)
 | loop (keep:List Nat) (a:C)
 | exit (id:Nat)
 | ret
 | rf (g:Opd) (ps:List Nat) (asg body:C)
 | bad
structure St where
 fr:Env
 H:Hp
 nx:Nat
inductive Ex where
 | nm
 | ex (id:Nat)
 | rt
def MethP (P:Program) (t:TypeId) (name:String) (f:FuncId):Prop:=∀ (v:Value) (w:World),(method (P.types.size+Made.depth) t v name).run P w = .ok (f,v) w
def execIO (P:Program) (Y:Ys) (io:Opr) (E:Env) (H:Hp) (nx top:Nat) (K:V→Hp→Nat→Prop):Prop :=
 match io.op with
 | .call f args=>match rdL (rdE E) args with
  | some vs=>CallW P Y io.fl f vs H (nx+8 * io.i) top K
  | none=>False
 | .callv g args=>match rdE E g with
  | some (.clo (.func f) first caps)=>match rdL (rdE E) args with
   | some vs=>CallW P Y io.fl f (first++vs++caps) H (nx+8 * io.i) top K
   | none=>False
  | some (.clo (.method name) (.ifc t x::first) _)=>match rdL (rdE E) args with
   | some vs=>∃ f,MethP P t name f∧CallW P Y io.fl f (x::first++vs) H (nx+8 * io.i) top K
   | none=>False
  | some (.yld o)=>match rdL (rdE E) args with
   | some vs=>CallT P Y io.fl (.yl o) vs H (nx+8 * io.i) top K
   | none=>False
  | _=>False
 | .inv name r args=>match rdE E r with
  | some (.ifc t x)=>match rdL (rdE E) args with
   | some vs=>∃ f,MethP P t name f∧CallW P Y io.fl f (x::vs) H (nx+8 * io.i) top K
   | none=>False
  | _=>False
 | .eqa neg x y=>match rdE E x,rdE E y with
  | some v,some .nils=>match v.isNil H 1 with
   | some r=>K (.bool (r != neg)) H top
   | none=>v.slike = true∧(v.nil0→K (.bool (true != neg)) H top)∧K (.bool (false != neg)) H top
  | _,_=>False
 | op=>match stepOp op (rdE E) H (nx+8 * io.i) with
  | some r=>K r.1 r.2 top
  | none=>False
def wpOp1 (P:Program) (Y:Ys) (nx:Nat) (io:Opr) (E:Env) (H:Hp) (top:Nat) (K:Env→Hp→Nat→Prop):Prop :=
 match io.g with
 | none=>execIO P Y io E H nx top fun v H' top'=>K (putE io.dst v E) H' top'
 | some (s,b)=>match look s E with
  | some (.bool c)=>if c = b then execIO P Y io E H nx top fun v H' top'=>K (putE io.dst v E) H' top' else K (putE io.dst V.undef E) H top
  | some (.tup _)=>K (putE io.dst V.undef E) H top
  | _=>False
def wpOps (P:Program) (Y:Ys) (nx:Nat):List Opr→Env→Hp→Nat→(Env→Hp→Nat→Prop)→Prop
 | [],E,H,top,K=>K E H top
 | io::l,E,H,top,K=>wpOp1 P Y nx io E H top fun E' H' top'=>wpOps P Y nx l E' H' top' K
def HS (H' H:Hp):Prop:=∀ o ob,H' o = some ob→H o = some ob
theorem HS.refl (H:Hp):HS H H:=fun _ _ h=>h
def kSeq (k:St→Prop) (K:Ex→St→Prop):Ex→St→Prop
 | .nm,st=>∃ E' H',(∀ n v,look n E' = some v→look n st.fr = some v)∧HS H' st.H∧k ⟨E',H',st.nx⟩
 | e,st=>K e st
def kBlk (id:Nat) (K:Ex→St→Prop):Ex→St→Prop
 | .ex i,st=>if i = id then K .nm st else K (.ex i) st
 | e,st=>K e st
def kLoop (keep:List Nat) (I:St→Prop) (μ:St→Nat) (m:Nat) (K:Ex→St→Prop):Ex→St→Prop
 | .nm,st=>∃ H',HS H' st.H∧I ⟨keepE st.fr keep,H',st.nx⟩∧μ ⟨keepE st.fr keep,H',st.nx⟩ < m
 | e,st=>K e st
def recO (n:Nat):Ob:={ cells:=[],sz:=n,sp:=1 }
def putL:List Nat→List V→Env→Env
 | p::ps,v::vs,E=>putL ps vs ((p,v)::E)
 | _,_,E=>E
def kRound (o:Nat) (Kc:V→Hp→Nat→Prop):Ex→St→Prop
 | .nm,st=>st.H o = some (recO 1)∧Kc (.bool true) (st.H.put o (recO 0)) st.nx
 | .rt,st=>st.H o = some (recO 1)∧Kc (.bool false) (st.H.put o (recO 2)) st.nx
 | .ex id,st=>st.H o = some (recO 1)∧Kc (.bool false) (st.H.put o (recO (id+3))) st.nx
def kAsg (o:Nat) (k:St→Prop):Ex→St→Prop
 | .nm,st=>st.H o = some (recO 0)∧k ⟨st.fr,st.H.put o (recO 1),st.nx⟩
 | _,_=>False
def kRf (o:Nat) (E:Env) (K:Ex→St→Prop) (H:Hp) (top:Nat):Prop :=
 match H o with
 | some ob=>(ob.sp = 1∧ob.nl = 0)∧(match ob.sz with
  | 0=>K .nm ⟨E,H.del o,top⟩
  | 1=>False
  | 2=>K .rt ⟨E,H.del o,top⟩
  | id+3=>K (.ex id) ⟨E,H.del o,top⟩)
 | none=>False
def wp (P:Program) (Y:Ys):C→(Ex→St→Prop)→St→Prop
 | .skip,K,st=>K .nm st
 | .reg _ ops keep,K,st=>wpOps P Y st.nx ops st.fr st.H (st.nx+8 * ops.length) fun E H top=>K .nm ⟨keepE E keep,H,top⟩
 | .seq a b,K,st=>wp P Y a (kSeq (wp P Y b K) K) st
 | .cond c a b,K,st=>match rdE st.fr c with
  | some (.bool t)=>if t = true then wp P Y a K st else wp P Y b K st
  | _=>False
 | .blk id a,K,st=>wp P Y a (kBlk id K) st
 | .loop keep a,K,st=>∃ (I:St→Prop) (μ:St→Nat),(∃ H',HS H' st.H∧I ⟨keepE st.fr keep,H',st.nx⟩)∧∀ s,I s→wp P Y a (kLoop keep I μ (μ s) K) s
 | .exit id,K,st=>K (.ex id) st
 | .ret,K,st=>K .rt st
 | .bad,_,_=>False
 | .rf g ps asg body,K,st=>match rdE st.fr g with
  | some (.clo (.func f) first caps)=>∃ R,RefC P (Y.put st.nx fun vs H top Kc=>vs.length = ps.length∧wp P Y asg (kAsg st.nx (wp P Y body (kRound st.nx Kc))) ⟨putL ps vs st.fr,H,top⟩) f (first++[.yld st.nx]++caps) (st.H.put st.nx (recO 0)) (st.nx+1) R ∧
    (∃ r H' t,R r H' t∧st.nx+1≤t∧∀ j,j < st.nx+1→(st.H.put st.nx (recO 0)) j = none→H' j = none) ∧
    ∀ r H' t,R r H' t→st.nx+1≤t→(∀ j,j < st.nx+1→(st.H.put st.nx (recO 0)) j = none→H' j = none)→kRf st.nx st.fr K H' t
  | _=>False
section
variable {Y:Ys}
theorem execIO_mono {P:Program} {io:Opr} {E:Env} {H:Hp} {nx top:Nat} {K K':V→Hp→Nat→Prop} (hk:∀ v H t,K v H t→K' v H t) (h:execIO P Y io E H nx top K):execIO P Y io E H nx top K':=by
 have hc:∀ {fl f vs id},CallW P Y fl f vs H id top K→CallW P Y fl f vs H id top K':=by
  intro fl f vs id h
  unfold CallW at *
  split at h
  ·obtain ⟨ds,H1,R,a,b,n,c⟩:=h;exact ⟨ds,H1,R,a,b,n,fun r hr=>let ⟨d,e,k⟩:=c r hr;⟨d,e,hk _ _ _ k⟩⟩
  ·obtain ⟨ds,H1,R,a,b,n,c⟩:=h;exact ⟨ds,H1,R,a,b,n,fun r hr=>let ⟨r',H2,id',e,l,k⟩:=c r hr;⟨r',H2,id',e,l,hk _ _ _ k⟩⟩
  ·obtain ⟨R,a,n,b⟩:=h;exact ⟨R,a,n,fun r H' t hr hl hd=>hk _ _ _ (b r H' t hr hl hd)⟩
 unfold execIO at *
 split at h <;> (try simp only at h ⊢)
 ·split at h
  ·exact hc h
  ·exact h
 ·split at h
  ·split at h
   ·exact hc h
   ·exact h
  ·split at h
   ·obtain ⟨f,hm,h⟩:=h;exact ⟨f,hm,hc h⟩
   ·exact h
  ·split at h
   ·obtain ⟨h1,y,K0,hy,h2,h3⟩:=h;exact ⟨h1,y,K0,hy,fun v H' t a b c=>hk _ _ _ (h2 v H' t a b c),h3⟩
   ·exact h
  ·exact h
 ·split at h
  ·split at h
   ·obtain ⟨f,hm,h⟩:=h;exact ⟨f,hm,hc h⟩
   ·exact h
  ·exact h
 ·split at h
  ·split at h
   ·exact hk _ _ _ h
   ·exact ⟨h.1,fun hn=>hk _ _ _ (h.2.1 hn),hk _ _ _ h.2.2⟩
  ·exact h
 ·split
  ·rename_i he;simp only [he] at h;exact hk _ _ _ h
  ·rename_i he;simp only [he] at h
theorem wpOp1_mono {P:Program} {nx:Nat} {io:Opr} {E:Env} {H:Hp} {top:Nat} {K K':Env→Hp→Nat→Prop} (hk:∀ v H t,K v H t→K' v H t) (h:wpOp1 P Y nx io E H top K):wpOp1 P Y nx io E H top K':=by
 unfold wpOp1 at *
 split at h
 ·exact execIO_mono (fun _ _ _=>hk _ _ _) h
 ·split at h
  ·split
   ·rename_i hc;simp only [hc,if_true] at h;exact execIO_mono (fun _ _ _=>hk _ _ _) h
   ·rename_i hc;simp only [hc,if_false] at h;exact hk _ _ _ h
  ·exact hk _ _ _ h
  ·exact h
theorem wpOps_mono {P:Program} {nx:Nat} {K K':Env→Hp→Nat→Prop} (hk:∀ v H t,K v H t→K' v H t):∀ {l:List Opr} {E:Env} {H:Hp} {top:Nat},wpOps P Y nx l E H top K→wpOps P Y nx l E H top K'
 | [],_,_,_,h=>hk _ _ _ h
 | _::_,_,_,_,h=>wpOp1_mono (fun _ _ _=>wpOps_mono hk) h
theorem kRf_mono {o:Nat} {E:Env} {K K':Ex→St→Prop} {H:Hp} {t:Nat} (hk:∀ e s,K e s→K' e s) (h:kRf o E K H t):kRf o E K' H t:=by
 unfold kRf at *
 split at h
 ·obtain ⟨h1,h⟩:=h
  refine ⟨h1,?_⟩
  split at h
  ·exact hk _ _ h
  ·exact h
  ·exact hk _ _ h
  ·exact hk _ _ h
 ·exact h
theorem wp_mono {P:Program}:∀ {c:C} {K K':Ex→St→Prop} {st:St},(∀ e s,K e s→K' e s)→wp P Y c K st→wp P Y c K' st
 | .skip,_,_,_,hk,h=>hk _ _ h
 | .reg ..,_,_,_,hk,h=>wpOps_mono (fun _ _ _=>hk _ _) h
 | .seq a b,K,K',st,hk,h=>wp_mono (c:=a) (fun e s he=>by
   cases e with
   | nm=>obtain ⟨E',H',h1,h2,h3⟩:=he;exact ⟨E',H',h1,h2,wp_mono (c:=b) hk h3⟩
   | _=>exact hk _ _ he) h
 | .cond c a b,K,K',st,hk,h=>by
  simp only [wp] at h ⊢
  split at h
  ·split at h
   ·rename_i hc;rw [if_pos hc];exact wp_mono hk h
   ·rename_i hc;rw [if_neg hc];exact wp_mono hk h
  ·exact h
 | .blk id a,K,K',st,hk,h=>wp_mono (c:=a) (fun e s he=>by
   cases e with
   | ex i =>
    simp only [kBlk] at he ⊢
    split
    ·rename_i hc;simp only [hc,if_true] at he;exact hk _ _ he
    ·rename_i hc;simp only [hc,if_false] at he;exact hk _ _ he
   | _=>exact hk _ _ he) h
 | .loop keep a,K,K',st,hk,h=>by
  obtain ⟨I,μ,h0,h1⟩:=h
  exact ⟨I,μ,h0,fun s hs=>wp_mono (c:=a) (fun e s' he=>by
   cases e with
   | nm=>exact he
   | _=>exact hk _ _ he) (h1 s hs)⟩
 | .exit _,_,_,_,hk,h=>hk _ _ h
 | .ret,_,_,_,hk,h=>hk _ _ h
 | .bad,_,_,_,_,h=>h
 | .rf g ps a b,K,K',st,hk,h=>by
  simp only [wp] at h ⊢
  split at h
  ·obtain ⟨R,h1,h2,h3⟩:=h
   exact ⟨R,h1,h2,fun r H' t a b c=>kRf_mono hk (h3 r H' t a b c)⟩
  ·exact h
def okCallee (c:Call) (op:IOp):Bool :=
 match c,op with
 | { callee:=.value (.func f),args,.. },.call g xs=>f == g && okOpds args.toList xs
 | { callee:=.value x,args,.. },.callv g xs=>okOpd x g && okOpds args.toList xs
 | { callee:=.invoke r name,args,.. },.inv n x xs=>name == n && okOpd r x && okOpds args.toList xs
 | _,_=>false
def IOp.isCall:IOp→Bool
 | .call .. | .callv .. | .inv ..=>true
 | _=>false
def okEqa (P:Program) (o:Op) (neg:Bool) (x y:Opd):Bool :=
 match o with
 | .binOp b t X Y _=>eqneg b neg && okOpd X x && okOpd Y y && okNilT P t 1 Y
 | _=>false
def IOp.nd:IOp→Bool
 | .call .. | .callv .. | .inv .. | .eqa ..=>true
 | _=>false
def okGuard (ops:Array Oper):Option (Nat × Bool)→Option (Nat × Bool)→Bool
 | none,none=>true
 | some (j,b),some (s,b')=>b == b' && (match ops[j]? with | some o=>(match o.dst with | some d=>d == s | none=>false) | none=>false)
 | _,_=>false
def okIO (P:Program) (nt:Nat) (ops:Array Oper) (o:Oper) (io:Opr):Bool :=
 (match o.dst,io.dst with | none,none=>true | some d,some d'=>d == d' && decide (d < nt) | _,_=>false) && okGuard ops o.guard io.g &&
 (match io.op with
  | .eqa neg x y=>okEqa P o.op neg x y
  | op=>if op.isCall then (match o.op with | .call c=>okCallee c op | _=>false) else okOp P o.op op && (match o.op with | .defer _=>false | _=>true))
def okOps (P:Program) (nt:Nat) (all:Array Oper):Nat→List Oper→List Opr→Bool
 | _,[],[]=>true
 | n,o::os,io::ios=>io.i == n && okIO P nt all o io && okOps P nt all (n+1) os ios
 | _,_,_=>false
end
end Go.Dp
