/- Runs: an interpreter over deep values, for calls with nothing open. -/
import Derived.Test.YtlbjgnkjicifhaaGreatDpRef
namespace Go.Dp
open Go.RowKit
set_option linter.unusedSimpArgs false
set_option linter.unusedVariables false
inductive HT where
 | e
 | n (v:Option Ob) (l r:HT)
 deriving Inhabited
def HT.get:HT→Nat→Option Ob
 | .e,_=>none
 | .n v l r,i=>match i with
  | 0=>v
  | j+1=>match (j % 2).beq 0 with
   | true=>l.get (j / 2)
   | false=>r.get (j / 2)
def HT.set:Nat→HT→Nat→Option Ob→HT
 | 0,h,_,_=>h
 | f+1,.e,i,x=>match i with
  | 0=>.n x .e .e
  | j+1=>match (j % 2).beq 0 with
   | true=>.n none (HT.set f .e (j / 2) x) .e
   | false=>.n none .e (HT.set f .e (j / 2) x)
 | f+1,.n v l r,i,x=>match i with
  | 0=>.n x l r
  | j+1=>match (j % 2).beq 0 with
   | true=>.n v (HT.set f l (j / 2) x) r
   | false=>.n v l (HT.set f r (j / 2) x)
def HT.put (h:HT) (i:Nat) (x:Ob):HT:=HT.set 40 h i (some x)
def HT.del (h:HT) (i:Nat):HT:=HT.set 40 h i none
def HT.small (i:Nat):Bool:=Nat.blt i 1099511627775
theorem HT.get_e (i:Nat):HT.get .e i = none:=by unfold HT.get;rfl
theorem HT.get_set:∀ (f:Nat) (h:HT) (i:Nat) (x:Option Ob) (k:Nat),i+1 < 2 ^ f→(HT.set f h i x).get k = if k = i then x else h.get k:=by
 intro f
 induction f with
 | zero=>intro h i x k hi;simp at hi
 | succ f ih =>
  intro h i x k hi
  rw [Nat.pow_succ] at hi
  have step:∀ (v:Option Ob) (l r:HT),(match i with
    | 0=>HT.n x l r
    | j+1=>match (j % 2).beq 0 with
     | true=>HT.n v (HT.set f l (j / 2) x) r
     | false=>HT.n v l (HT.set f r (j / 2) x)).get k = if k = i then x else (HT.n v l r).get k:=by
   intro v l r
   cases i with
   | zero =>
    cases k with
    | zero=>simp [HT.get]
    | succ k=>simp [HT.get]
   | succ j =>
    have hj:j / 2+1 < 2 ^ f:=by omega
    cases hb:(j % 2).beq 0 with
    | true =>
     have hj2:j % 2 = 0:=Nat.eq_of_beq_eq_true hb
     simp only [hb]
     cases k with
     | zero=>simp [HT.get]
     | succ k =>
      simp only [HT.get]
      cases hk:(k % 2).beq 0 with
      | true =>
       have hk2:k % 2 = 0:=Nat.eq_of_beq_eq_true hk
       simp only
       rw [ih _ _ _ _ hj]
       by_cases he:k = j
       ·subst he;simp
       ·rw [if_neg (by omega),if_neg (by omega)]
      | false =>
       have hk2:k % 2≠0:=Nat.ne_of_beq_eq_false hk
       simp only
       rw [if_neg (by intro he; have : k = j := by omega
                      subst this;exact hk2 hj2)]
    | false =>
     have hj2:j % 2≠0:=Nat.ne_of_beq_eq_false hb
     simp only [hb]
     cases k with
     | zero=>simp [HT.get]
     | succ k =>
      simp only [HT.get]
      cases hk:(k % 2).beq 0 with
      | true =>
       have hk2:k % 2 = 0:=Nat.eq_of_beq_eq_true hk
       simp only
       rw [if_neg (by intro he; have : k = j := by omega
                      subst this;exact hj2 hk2)]
      | false =>
       have hk2:k % 2≠0:=Nat.ne_of_beq_eq_false hk
       simp only
       rw [ih _ _ _ _ hj]
       by_cases he:k = j
       ·subst he;simp
       ·rw [if_neg (by omega),if_neg (by omega)]
  cases h with
  | e =>
   have:=step none .e .e
   have h0:(HT.n none .e .e).get k = HT.get .e k:=by
    cases k with
    | zero=>simp [HT.get]
    | succ k=>simp only [HT.get];split <;> rfl
   rw [h0] at this
   exact this
  | n v l r=>exact step v l r
theorem HT.small_lt {i:Nat} (h:HT.small i = true):i+1 < 2 ^ 40:=by
 have:i < 1099511627775:=by simpa [HT.small,Nat.blt_eq] using h
 omega
theorem HT.get_put {h:HT} {i:Nat} {x:Ob} (hs:HT.small i = true):(h.put i x).get = Hp.put h.get i x:=by
 funext k;simp only [HT.put,Hp.put];exact HT.get_set 40 h i _ k (HT.small_lt hs)
theorem HT.get_del {h:HT} {i:Nat} (hs:HT.small i = true):(h.del i).get = Hp.del h.get i:=by
 funext k;simp only [HT.del,Hp.del];exact HT.get_set 40 h i _ k (HT.small_lt hs)
def tgt (op:IOp) (rd:Opd→Option V) (id:Nat):Option Nat :=
 match op with
 | .alloc .. | .box .. | .bsl .. | .mksl .. | .nilo .. | .mkm=>some id
 | .store _ a _=>(rd a).bind V.obj
 | .app _ _ s _ | .appx _ _ _ s _ | .appa _ _ _ s _ | .appz _ _ _ s _=>match rd s with | some .nils=>some id | some v=>v.obj | none=>none
 | .cpy _ d _=>(rd d).bind V.obj
 | .mput _ m _ _=>(rd m).bind V.obj
 | _=>none
def stepR (op:IOp) (rd:Opd→Option V) (h:HT) (id:Nat):Option (V × HT) :=
 match stepOp op rd h.get id with
 | none=>none
 | some (v,H')=>match tgt op rd id with
  | none=>some (v,h)
  | some t=>match HT.small t with
   | true=>match H' t with
    | some ob=>some (v,h.put t ob)
    | none=>none
   | false=>none
def mapST (f:V→HT→Option (V × HT)):List V→HT→Option (List V × HT)
 | [],h=>some ([],h)
 | v::l,h=>match f v h with
  | none=>none
  | some (d,h1)=>match mapST f l h1 with
   | none=>none
   | some (ds,h2)=>some (d::ds,h2)
def HT.mark (h:HT) (o k:Nat):Option HT:=match HT.small o with | true=>(match h.get o with | some ob=>some (h.put o { ob with fz:=max ob.fz k }) | none=>some h) | false=>none
def frzT:Nat→V→HT→Option (V × HT)
 | 0,v,h=>if v.atom then some (v,h) else none
 | n+1,v,h=>match v with
  | .ref o ver off len=>match h.get o with
   | some ob=>if ob.ver = ver∧off+len * ob.sz≤ob.cells.length∧ob.sp = 0 then
     (match mapST (frzT n) ((ob.cells.drop off).take (len * ob.sz)) h with
      | none=>none
      | some (ds,h1)=>match h1.mark o (off+len * ob.sz) with | none=>none | some h2=>some (.sl ds len,h2))
     else none
   | none=>none
  | .ptr o ver off=>match h.get o with
   | some ob=>if ob.ver = ver∧ob.sp = 0 then
     (match mapST (frzT n) ob.cells h with
      | none=>none
      | some (ds,h1)=>match h1.mark o ob.cells.length with | none=>none | some h2=>some (.fp ds off,h2))
     else none
   | none=>none
  | .clo fn f c=>match mapST (frzT n) f h with
   | none=>none
   | some (f',h1)=>match mapST (frzT n) c h1 with
    | none=>none
    | some (c',h2)=>some (.clo fn f' c',h2)
  | .ifc t v=>match frzT n v h with | none=>none | some (d,h1)=>some (.ifc t d,h1)
  | .agg l=>match mapST (frzT n) l h with | none=>none | some (d,h1)=>some (.agg d,h1)
  | .tup l=>match mapST (frzT n) l h with | none=>none | some (d,h1)=>some (.tup d,h1)
  | v=>if v.atom then some (v,h) else none
abbrev OpnT:=V→Nat→HT→Option (V × HT × Nat)
def opnLT (f:OpnT):List V→Nat→HT→Option (List V × HT × Nat)
 | [],id,h=>some ([],h,id)
 | v::l,id,h=>match f v id h with
  | none=>none
  | some (d,h1,i1)=>match opnLT f l i1 h1 with
   | none=>none
   | some (ds,h2,i2)=>some (d::ds,h2,i2)
def opn0T:OpnT
 | .own cells len sz,id,h=>match HT.small id with
  | true=>some (.ref id 0 0 len,h.put id { cells:=cells,sz:=sz,nl:=if cells.isEmpty then 2 else 0 },id+1)
  | false=>none
 | .agg _,_,_=>none
 | .tup _,_,_=>none
 | v,id,h=>some (v,h,id)
def opnT:Nat→OpnT
 | 0,v,id,h=>opn0T v id h
 | n+1,v,id,h=>match v with
  | .agg l=>match opnLT (opnT n) l id h with | none=>none | some (d,r)=>some (.agg d,r)
  | .tup l=>match opnLT (opnT n) l id h with | none=>none | some (d,r)=>some (.tup d,r)
  | v=>opn0T v id h
abbrev Res:=Except (List Nat)
inductive Yc where
 | nil
 | cons (o:Nat) (ps:List Nat) (asg body:C) (fr:Env) (rest:Yc)
structure FnT where
 np:Nat
 c:C
 rs:List RV
 sh:Sh
structure Tab where
 fn:Nat→Option FnT
 meth:List (Nat × String × Nat)
def findMeth (t:Nat) (name:String):List (Nat × String × Nat)→Option Nat
 | []=>none
 | (t',n,f)::l=>if t = t'∧n = name then some f else findMeth t name l
def Yc.find (o:Nat):Yc→Option (List Nat × C × C × Env × Yc)
 | .nil=>none
 | .cons o' ps a b fr rest=>if o' = o then some (ps,a,b,fr,rest) else rest.find o
abbrev RunT:=Yc→C→Env→HT→Nat→Res (Ex × Env × HT × Nat)
def endR (rs:List RV):Ex × Env × HT × Nat→Option V
 | (.ex _,_)=>none
 | (_,E,h,nx)=>resV ⟨E,h.get,nx⟩ rs
def callR (T:Tab) (rec:RunT) (Y:Yc) (fl f:Nat) (vs:List V) (h:HT) (id top:Nat):Res (V × HT × Nat) :=
 match T.fn f with
 | none=>.error [f,1]
 | some fn=>match vs.length.beq fn.np with
  | false=>.error [f,2]
  | true=>match fl with
   | 0=>match mapST (frzT 12) vs h with
    | none=>.error [f,3]
    | some (ds,h1)=>match rec .nil fn.c (argE 0 ds) .e 0 with
     | .error e=>.error (f::e)
     | .ok r=>match endR fn.rs r with
      | none=>.error [f,4]
      | some v=>match fin 12 fn.sh v r.2.2.1.get with
       | none=>.error [f,5]
       | some (x,_)=>match thaw 4 x with
        | none=>.error [f,6]
        | some d=>.ok (d,h1,top)
   | 1=>match mapST (frzT 12) vs h with
    | none=>.error [f,3]
    | some (ds,h1)=>match rec .nil fn.c (argE 0 ds) .e 0 with
     | .error e=>.error (f::e)
     | .ok r=>match endR fn.rs r with
      | none=>.error [f,4]
      | some v=>match fin 12 fn.sh v r.2.2.1.get with
       | none=>.error [f,5]
       | some (x,_)=>match opnT 3 x id h1 with
        | none=>.error [f,7]
        | some (d,h2,id')=>match Nat.ble id' (id+8) with
         | true=>.ok (d,h2,top)
         | false=>.error [f,8]
   | _=>match rec Y fn.c (argE 0 vs) h top with
    | .error e=>.error (f::e)
    | .ok r=>match endR fn.rs r with
     | none=>.error [f,4]
     | some v=>.ok (v,r.2.2.1,r.2.2.2)
def yieldR (rec:RunT) (Y:Yc) (o:Nat) (vs:List V) (h:HT) (top:Nat):Res (V × HT × Nat) :=
 match Y.find o with
 | none=>.error [900]
 | some (ps,asg,body,fr,rest)=>match vs.length.beq ps.length,HT.small o with
  | true,true=>match rec rest asg (putL ps vs fr) h top with
   | .error e=>.error (901::e)
   | .ok (.nm,E1,h1,n1)=>match h1.get o with
    | some { cells:=[],sz:=0,ver:=0,fz:=0,nl:=0,sp:=1,mp:=[] }=>match rec rest body E1 (h1.put o (recO 1)) n1 with
     | .error e=>.error (902::e)
     | .ok (x,_,h2,n2)=>match h2.get o with
      | some { cells:=[],sz:=1,ver:=0,fz:=0,nl:=0,sp:=1,mp:=[] }=>match x with
       | .nm=>.ok (.bool true,h2.put o (recO 0),n2)
       | .rt=>.ok (.bool false,h2.put o (recO 2),n2)
       | .ex id=>.ok (.bool false,h2.put o (recO (id+3)),n2)
      | _=>.error [903]
    | _=>.error [904]
   | .ok _=>.error [905]
  | _,_=>.error [906]
def execR (T:Tab) (rec:RunT) (Y:Yc) (io:Opr) (E:Env) (h:HT) (nx top:Nat):Res (V × HT × Nat) :=
 match io.op with
 | .call f args=>match rdL (rdE E) args with
  | some vs=>callR T rec Y io.fl f vs h (nx+8 * io.i) top
  | none=>.error [910]
 | .callv g args=>match rdE E g with
  | some (.clo (.func f) first caps)=>match rdL (rdE E) args with
   | some vs=>callR T rec Y io.fl f (first++vs++caps) h (nx+8 * io.i) top
   | none=>.error [910]
  | some (.clo (.method name) (.ifc t x::first) _)=>match rdL (rdE E) args with
   | some vs=>match findMeth t name T.meth with
    | some f=>callR T rec Y io.fl f (x::first++vs) h (nx+8 * io.i) top
    | none=>.error [911,t]
   | none=>.error [910]
  | some (.yld o)=>match rdL (rdE E) args with
   | some vs=>match Nat.ble 2 io.fl with
    | true=>yieldR rec Y o vs h top
    | false=>.error [912]
   | none=>.error [910]
  | _=>.error [913]
 | .inv name r args=>match rdE E r with
  | some (.ifc t x)=>match rdL (rdE E) args with
   | some vs=>match findMeth t name T.meth with
    | some f=>callR T rec Y io.fl f (x::vs) h (nx+8 * io.i) top
    | none=>.error [911,t]
   | none=>.error [910]
  | _=>.error [914]
 | .eqa neg x y=>match rdE E x,rdE E y with
  | some v,some .nils=>match v.isNil h.get 1 with
   | some r=>.ok (.bool (r != neg),h,top)
   | none=>.error [915]
  | _,_=>.error [916]
 | op=>match stepR op (rdE E) h (nx+8 * io.i) with
  | some r=>.ok (r.1,r.2,top)
  | none=>.error [917]
def op1R (T:Tab) (rec:RunT) (Y:Yc) (nx:Nat) (io:Opr) (E:Env) (h:HT) (top:Nat):Res (Env × HT × Nat) :=
 match io.g with
 | none=>match execR T rec Y io E h nx top with
  | .ok (v,h',t')=>.ok (putE io.dst v E,h',t')
  | .error e=>.error (io.i::e)
 | some (s,b)=>match look s E with
  | some (.bool c)=>match c == b with
   | true=>match execR T rec Y io E h nx top with
    | .ok (v,h',t')=>.ok (putE io.dst v E,h',t')
    | .error e=>.error (io.i::e)
   | false=>.ok (putE io.dst V.undef E,h,top)
  | some (.tup _)=>.ok (putE io.dst V.undef E,h,top)
  | _=>.error [918]
def opsR (T:Tab) (rec:RunT) (Y:Yc) (nx:Nat):List Opr→Env→HT→Nat→Res (Env × HT × Nat)
 | [],E,h,top=>.ok (E,h,top)
 | io::l,E,h,top=>match op1R T rec Y nx io E h top with
  | .ok (E',h',t')=>opsR T rec Y nx l E' h' t'
  | .error e=>.error e
def bodyR (T:Tab) (rec:RunT) (Y:Yc) (c:C) (E:Env) (h:HT) (nx:Nat):Res (Ex × Env × HT × Nat) :=
 match c with
 | .skip=>.ok (.nm,E,h,nx)
 | .exit id=>.ok (.ex id,E,h,nx)
 | .ret=>.ok (.rt,E,h,nx)
 | .bad=>.error [920]
 | .reg _ ops keep=>match opsR T rec Y nx ops E h (nx+8 * ops.length) with
  | .ok (E',h',t')=>.ok (.nm,keepE E' keep,h',t')
  | .error e=>.error (1000::e)
 | .seq a b=>match rec Y a E h nx with
  | .ok (.nm,E',h',n')=>rec Y b E' h' n'
  | r=>r
 | .cond c a b=>match rdE E c with
  | some (.bool true)=>rec Y a E h nx
  | some (.bool false)=>rec Y b E h nx
  | _=>.error [921]
 | .blk id a=>match rec Y a E h nx with
  | .ok (.ex i,E',h',n')=>match i.beq id with
   | true=>.ok (.nm,E',h',n')
   | false=>.ok (.ex i,E',h',n')
  | r=>r
 | .loop keep a=>match rec Y a (keepE E keep) h nx with
  | .ok (.nm,E',h',n')=>rec Y (.loop keep a) E' h' n'
  | r=>r
 | .rf g ps asg body=>match rdE E g with
  | some (.clo (.func f) first caps)=>match HT.small nx with
   | true=>match callR T rec (.cons nx ps asg body E Y) 2 f (first++[.yld nx]++caps) (h.put nx (recO 0)) nx (nx+1) with
    | .error e=>.error e
    | .ok (_,h',t')=>match h'.get nx with
     | some ob=>match ob.sp,ob.nl with
      | 1,0=>match ob.sz with
       | 0=>.ok (.nm,E,h'.del nx,t')
       | 1=>.error [922]
       | 2=>.ok (.rt,E,h'.del nx,t')
       | id+3=>.ok (.ex id,E,h'.del nx,t')
      | _,_=>.error [923]
     | none=>.error [924]
   | false=>.error [925]
  | _=>.error [926]
def runN (T:Tab):Nat→RunT
 | 0=>fun _ _ _ _ _=>.error [999]
 | n+1=>bodyR T (runN T n)
end Go.Dp
