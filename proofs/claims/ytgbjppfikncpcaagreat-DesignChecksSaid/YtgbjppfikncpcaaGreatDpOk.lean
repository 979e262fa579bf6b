import Derived.Test.YtgbjppfikncpcaaGreatDpCore
namespace Go.Dp
open Go.RowKit
inductive Opd where
 | t (n:Nat)
 | c (v:V)
 deriving Inhabited
inductive IOp where
 | mv (x:Opd)
 | pick (c a b:Opd)
 | alloc (z:List V) (sz:Nat)
 | box (sz:Nat) (x:Opd)
 | build (z:List V) (parts:List (Nat × Nat × Opd))
 | bsl (sz len:Nat) (z:List V) (parts:List (Nat × Nat × Opd))
 | load (n:Option Nat) (a:Opd)
 | store (n:Nat) (a x:Opd)
 | nilc (x:Opd)
 | bin (op:BinOp) (x y:Opd)
 | eqb (neg:Bool) (x y:Opd)
 | eqn (kd:Nat) (neg:Bool) (x y:Opd)
 | eqa (neg:Bool) (x y:Opd)
 | nilo (sz:Nat)
 | aidx (n:Option Nat) (len sz:Nat) (x i:Opd)
 | un (op:UnOp) (x:Opd)
 | cvt (k:IntKind) (x:Opd)
 | mkif (t:TypeId) (x:Opd)
 | mkfn (fn:Fn) (first caps:List Opd)
 | mksl (sz bytes:Nat) (z:List V) (len cap:Opd)
 | slc (arr:Option Nat) (sz:Nat) (x:Opd) (lo hi mx:Option Opd)
 | faddr (off:Nat) (x:Opd)
 | fld (n:Option Nat) (off:Nat) (x:Opd)
 | iaddr (arr:Option Nat) (sz:Nat) (x i:Opd)
 | ext (i:Nat) (x:Opd)
 | len (arr:Option Nat) (x:Opd)
 | slen (x:Opd)
 | mn (xs:List Opd)
 | mx (xs:List Opd)
 | app (sz bytes:Nat) (s x:Opd)
 | cpy (sz:Nat) (d s:Opd)
 | call (f:FuncId) (args:List Opd)
 | callv (g:Opd) (args:List Opd)
 | inv (name:String) (recv:Opd) (args:List Opd)
 | loadx (n:Option Nat) (a:Opd) (bs:List Nat)
 | appz (sz bytes:Nat) (z:List V) (s n:Opd)
 | sidx (x i:Opd)
 | mkm
 | lkp (kd:Nat) (z:V) (ok:Bool) (m k:Opd)
 | mput (kd:Nat) (m k x:Opd)
 | eqs (n:Nat) (neg:Bool) (x y:Opd)
 | appx (al sz bytes:Nat) (s x:Opd)
 | loada (n:Option Nat) (a:Opd) (al:Nat)
 | appa (bs:List Nat) (sz bytes:Nat) (s x:Opd)
 | bad
 deriving Inhabited
def V.cellsOf:V→Option (List V)
 | .agg cs=>some cs
 | .tup _=>none
 | v=>some [v]
def vint (op:BinOp) (k:IntKind) (a b:Int):Option V :=
 match op with
 | .add=>some (.int k (k.wrap (a+b)))
 | .sub=>some (.int k (k.wrap (a - b)))
 | .mul=>some (.int k (k.wrap (a * b)))
 | .quo=>if b = 0 then none else some (.int k (k.wrap (a.tdiv b)))
 | .rem=>if b = 0 then none else some (.int k (a.tmod b))
 | .and=>some (.int k (k.wrap (BitVec.ofInt k.bits a &&& BitVec.ofInt k.bits b).toNat))
 | .or=>some (.int k (k.wrap (BitVec.ofInt k.bits a ||| BitVec.ofInt k.bits b).toNat))
 | .xor=>some (.int k (k.wrap (BitVec.ofInt k.bits a ^^^ BitVec.ofInt k.bits b).toNat))
 | .andNot=>some (.int k (k.wrap (BitVec.ofInt k.bits a &&& ~~~BitVec.ofInt k.bits b).toNat))
 | .eql=>some (.bool (a == b))
 | .neq=>some (.bool (a != b))
 | .lss=>some (.bool (decide (a < b)))
 | .leq=>some (.bool (decide (a≤b)))
 | .gtr=>some (.bool (decide (a > b)))
 | .geq=>some (.bool (decide (a ≥ b)))
 | _=>none
def vshift (op:BinOp) (k:IntKind) (a b:Int):Option V :=
 match op with
 | .shl=>if b < 0 then none else some (.int k (k.wrap (a * 2 ^ min b.toNat k.bits)))
 | .shr=>if b < 0 then none else some (.int k (a.fdiv (2 ^ min b.toNat k.bits)))
 | _=>none
def vbin (op:BinOp) (x y:V):Option V :=
 match x,y with
 | .int k a,.int k' b=>if op = .shl∨op = .shr then vshift op k a b else if k = k' then vint op k a b else none
 | _,_=>none
def V.isNil (H:Hp) (kd:Nat):V→Option Bool
 | .nilp=>if kd = 0 then some true else none
 | .nils=>if kd = 1 then some true else none
 | .nilm=>if kd = 2 then some true else none
 | .nilf=>if kd = 3 then some true else none
 | .nili=>if kd = 4 then some true else none
 | .fp _ _ | .ptr _ _ _=>if kd = 0 then some false else none
 | .clo _ _ _=>if kd = 3 then some false else none
 | .ifc _ _=>if kd = 4 then some false else none
 | .mp _=>if kd = 2 then some false else none
 | .sl (_::_) _=>if kd = 1 then some false else none
 | .ref o ver _ _=>if kd = 1 then match H o with | some ob=>if ob.ver = ver then (match ob.nl with | 0=>some false | 1=>some true | _=>none) else none | none=>none else none
 | _=>none
def V.slike:V→Bool
 | .sl _ _ | .ref _ _ _ _ | .nils=>true
 | _=>false
def V.nil0:V→Prop
 | .sl cells len=>cells = []∧len = 0
 | _=>True
def V.isNilLit (kd:Nat):V→Bool
 | .nilp=>kd == 0
 | .nils=>kd == 1
 | .nilm=>kd == 2
 | .nilf=>kd == 3
 | .nili=>kd == 4
 | _=>false
def vint?:V→Option Int
 | .int _ n=>some n
 | _=>none
def asB:V→Option Bool
 | .bool b=>some b
 | _=>none
def asT:V→Option (List V)
 | .tup l=>some l
 | _=>none
def asI64:V→Option Int
 | .int .i64 n=>some n
 | _=>none
def cvtV (k:IntKind):V→Option V
 | .int _ n=>some (.int k (k.wrap n))
 | _=>none
def unV:UnOp→V→Option V
 | .neg,.int k n=>some (.int k (k.wrap (0 - n)))
 | .not,.bool b=>some (.bool !b)
 | .xor,.int k n=>vint .xor k (if k.signed then -1 else k.max) n
 | _,_=>none
def nilcV:V→Option V
 | .fp c o=>some (.fp c o)
 | .ptr o v p=>some (.ptr o v p)
 | .clo (.func f) a b=>some (.clo (.func f) a b)
 | .ifc t v=>some (.ifc t v)
 | _=>none
def mn2:V→V→Option V
 | .int k a,.int _ b=>some (.int k (if b < a then b else a))
 | _,_=>none
def mx2:V→V→Option V
 | .int k a,.int _ b=>some (.int k (if b > a then b else a))
 | _,_=>none
def foldV (f:V→V→Option V):V→List V→Option V
 | a,[]=>some a
 | a,b::l=>(f a b).bind fun c=>foldV f c l
def fold1 (f:V→V→Option V):List V→Option V
 | []=>none
 | a::l=>foldV f a l
def fillV:List V→List (Nat × Nat × V)→Option (List V)
 | cs,[]=>some cs
 | cs,(off,size,v)::rest =>
  v.cellsOf.bind fun vc=>if vc.length = size∧off+size≤cs.length then fillV (cs.take off++vc++cs.drop (off+size)) rest else none
def rdParts (rd:Opd→Option V):List (Nat × Nat × Opd)→Option (List (Nat × Nat × V))
 | []=>some []
 | (o,s,x)::rest=>(rd x).bind fun v=>(rdParts rd rest).map fun l=>(o,s,v)::l
def rdL (rd:Opd→Option V):List Opd→Option (List V)
 | []=>some []
 | x::rest=>(rd x).bind fun v=>(rdL rd rest).map fun l=>v::l
def rdO (rd:Opd→Option V):Option Opd→Option (Option V)
 | none=>some none
 | some x=>(rd x).map some
def V.cellsAt (H:Hp):V→Option (List V × Nat)
 | .fp cells off=>some (cells,off)
 | .ptr o ver off=>match H o with | some ob=>if ob.ver = ver then some (ob.cells,off) else none | none=>none
 | _=>none
def loadV (n:Option Nat) (c:List V × Nat):Option V :=
 match n with
 | none=>c.1[c.2]?
 | some k=>if c.2+k≤c.1.length then some (.agg ((c.1.drop c.2).take k)) else none
def storeV (n:Nat) (p v:V) (H:Hp):Option Hp :=
 match p with
 | .ptr o ver off=>match H o with
  | some ob=>v.cellsOf.bind fun vc=>if ob.ver = ver∧ob.fz≤off∧off+n≤ob.cells.length∧vc.length = n∧0 < n then
    some (H.put o { ob with cells:=ob.cells.take off++vc++ob.cells.drop (off+n) }) else none
  | none=>none
 | _=>none
def slBounds (len:Nat) (lo hi mx:Option V):Option (Nat × Nat) :=
 let m?:Option Nat:=match mx with | none=>some len | some v=>(vint? v).bind fun n=>if 0≤n∧n≤len then some n.toNat else none
 m?.bind fun m =>
 let h?:Option Nat:=match hi with | none=>if mx.isNone then some len else none | some v=>(vint? v).bind fun n=>if 0≤n∧n≤m then some n.toNat else none
 h?.bind fun h =>
 let l?:Option Nat:=match lo with | none=>some 0 | some v=>(vint? v).bind fun n=>if 0≤n∧n≤h then some n.toNat else none
 l?.map fun l=>(l,h)
def slV (arr:Option Nat) (sz:Nat) (x:V) (lo hi mx:Option V) (H:Hp):Option V :=
 match arr,x with
 | none,.sl cells len=>(slBounds len lo hi mx).map fun (l,h)=>.sl ((cells.drop (l * sz)).take ((h - l) * sz)) (h - l)
 | none,.ref o ver off len=>match H o with
  | some ob=>if ob.sz = sz∧ob.ver = ver∧ob.sp = 0 then (slBounds len lo hi mx).map fun (l,h)=>if l < h∨l = 0 then .ref o ver (off+l * sz) (h - l) else .sl [] 0 else none
  | none=>none
 | none,.nils=>(slBounds 0 lo hi mx).map fun _=>.nils
 | some n,.fp cells off=>if off+n * sz≤cells.length then (slBounds n lo hi mx).map fun (l,h)=>.sl ((cells.drop (off+l * sz)).take ((h - l) * sz)) (h - l) else none
 | some n,.ptr o ver off=>match H o with
  | some ob=>if ob.sz = sz∧ob.ver = ver∧off+n * sz≤ob.cells.length∧ob.sp = 0 then (slBounds n lo hi mx).map fun (l,h)=>if l < h∨l = 0 then .ref o ver (off+l * sz) (h - l) else .sl [] 0 else none
  | none=>none
 | _,_=>none
def iaddrV (arr:Option Nat) (sz:Nat) (x i:V):Option V :=
 (vint? i).bind fun n =>
 match arr,x with
 | none,.sl cells len=>if 0≤n∧n < len then some (.fp cells (n.toNat * sz)) else none
 | none,.ref o ver off len=>if 0≤n∧n < len then some (.ptr o ver (off+n.toNat * sz)) else none
 | some m,.fp cells off=>if 0≤n∧n < m then some (.fp cells (off+n.toNat * sz)) else none
 | some m,.ptr o ver off=>if 0≤n∧n < m then some (.ptr o ver (off+n.toNat * sz)) else none
 | _,_=>none
def faddrV (off:Nat):V→Option V
 | .fp cells o=>some (.fp cells (o+off))
 | .ptr o ver p=>some (.ptr o ver (p+off))
 | _=>none
def fldV (n:Option Nat) (off:Nat):V→Option V
 | .agg cells=>loadV n (cells,off)
 | _=>none
def lenV:V→Option Nat
 | .sl _ len=>some len
 | .ref _ _ _ len=>some len
 | .nils=>some 0
 | _=>none
def asS:V→Option ByteArray
 | .str s=>some s
 | _=>none
def elemsV (sz:Nat) (H:Hp):V→Option (List V × Nat)
 | .sl cells len=>if len * sz≤cells.length then some (cells.take (len * sz),len) else none
 | .nils=>some ([],0)
 | .ref o ver off len=>match H o with
  | some ob=>if ob.ver = ver∧off+len * sz≤ob.cells.length then some ((ob.cells.drop off).take (len * sz),len) else none
  | none=>none
 | _=>none
def appV (sz bytes:Nat) (s x:V) (H:Hp) (id:Nat):Option (V × Hp) :=
 (elemsV sz H x).bind fun (es,k) =>
 match s with
 | .nils=>if k * bytes≤140737488355328∧k≤4611686018427387904 then some (.ref id 0 0 k,H.put id { cells:=es,sz:=sz,nl:=if k = 0 then 1 else 0 }) else none
 | .ref o ver off len=>match H o with
  | some ob =>
   if ob.ver = ver∧ob.sz = sz∧off = 0∧ob.fz≤len * sz∧len * sz≤ob.cells.length∧(len+k) * bytes≤140737488355328∧len+k≤4611686018427387904∧ob.sp = 0 then
    some (.ref o (ver+1) 0 (len+k),H.put o { ob with cells:=ob.cells.take (len * sz)++es,ver:=ver+1,nl:=if k = 0 then ob.nl else 0 })
   else none
  | none=>none
 | _=>none
def cpyV (sz:Nat) (d s:V) (H:Hp):Option (V × Hp) :=
 (elemsV sz H s).bind fun (es,k) =>
 match d with
 | .nils=>some (.int .i64 0,H)
 | .ref o ver off len=>match H o with
  | some ob =>
   let n:=min k len
   if ob.ver = ver∧ob.fz≤off∧off+len * sz≤ob.cells.length∧ob.nl = 0∧ob.sp = 0 then
    some (.int .i64 (n:Int),H.put o { ob with cells:=ob.cells.take off++es.take (n * sz)++ob.cells.drop (off+n * sz) })
   else none
  | none=>none
 | _=>none
def V.undef:V:=.tup []
def zerosV (z:List V):Nat→List V
 | 0=>[]
 | n+1=>z++zerosV z n
def V.obj:V→Option Nat
 | .ptr o _ _=>some o
 | .ref o _ _ _=>some o
 | .mp o=>some o
 | _=>none
def apartV (rd:Opd→Option V) (p:V):List Nat→Bool
 | []=>true
 | b::bs=>(match rd (.t b) with | some q=>p.obj.isNone || p.obj != q.obj | none=>false) && apartV rd p bs
def appzV (sz bytes:Nat) (z:List V) (s:V) (n:Int) (H:Hp) (id:Nat):Option (V × Hp) :=
 if 0≤n then
  match s with
  | .nils=>if n.toNat * bytes≤140737488355328∧n.toNat≤4611686018427387904 then some (.ref id 0 0 n.toNat,H.put id { cells:=zerosV z n.toNat,sz:=sz,nl:=if n.toNat = 0 then 1 else 0 }) else none
  | .ref o ver off len=>match H o with
   | some ob =>
    if ob.ver = ver∧ob.sz = sz∧off = 0∧ob.fz≤len * sz∧len * sz≤ob.cells.length∧(len+n.toNat) * bytes≤140737488355328∧len+n.toNat≤4611686018427387904∧ob.sp = 0 then
     some (.ref o (ver+1) 0 (len+n.toNat),H.put o { ob with cells:=ob.cells.take (len * sz)++zerosV z n.toNat,ver:=ver+1,nl:=if n.toNat = 0 then ob.nl else 0 })
    else none
   | none=>none
  | _=>none
 else none
def keyEq:Nat→V→V→Option Bool
 | 0,.int k a,.int k' b=>if k = k' then some (a == b) else none
 | 1,.str a,.str b=>some (a == b)
 | 2,.bool a,.bool b=>some (a == b)
 | _,_,_=>none
def findV (kd:Nat) (k:V):List (V × V)→Nat→Option (Option (Nat × V))
 | [],_=>some none
 | e::es,i=>(keyEq kd k e.1).bind fun b=>if b then some (some (i,e.2)) else findV kd k es (i+1)
def mapOf (H:Hp):V→Option (List (V × V))
 | .nilm=>some []
 | .mp o=>match H o with | some ob=>if ob.sp = 2∧ob.nl = 0 then some ob.mp else none | none=>none
 | _=>none
def lkpV (kd:Nat) (z:V) (ok:Bool) (H:Hp) (m k:V):Option V :=
 (mapOf H m).bind fun es=>(findV kd k es 0).map fun r =>
  let (v,b):=match r with | some (_,v)=>(v,true) | none=>(z,false)
  if ok then .tup [v,.bool b] else v
def mputV (kd:Nat) (H:Hp) (m k x:V):Option Hp :=
 match m with
 | .mp o=>match H o with
  | some ob=>if ob.sp = 2∧ob.nl = 0 then (findV kd k ob.mp 0).map fun r =>
    H.put o { ob with mp:=match r with | some (i,_)=>ob.mp.take i++(k,x)::ob.mp.drop (i+1) | none=>ob.mp++[(k,x)] } else none
  | none=>none
 | _=>none
def eqIs:List V→List V→Option Bool
 | [],[]=>some true
 | .int k a::l,.int k' b::m=>if k = k' then (eqIs l m).map fun r=>decide (a = b) && r else none
 | _,_=>none
def eqsV (n:Nat):V→V→Option Bool
 | .agg c,.agg d=>if c.length = n then eqIs c d else none
 | _,_=>none
def stepOp (op:IOp) (rd:Opd→Option V) (H:Hp) (id:Nat):Option (V × Hp) :=
 match op with
 | .mv x=>(rd x).map fun v=>(v,H)
 | .pick c a b=>((rd c).bind asB).bind fun t=>(if t then rd a else rd b).map fun v=>(v,H)
 | .alloc z sz=>some (.ptr id 0 0,H.put id { cells:=z,sz:=sz })
 | .box sz x=>((rd x).bind V.cellsOf).map fun cs=>(.ptr id 0 0,H.put id { cells:=cs,sz:=sz })
 | .build z parts=>((rdParts rd parts).bind (fillV z)).map fun cs=>(.agg cs,H)
 | .bsl sz len z parts=>((rdParts rd parts).bind (fillV z)).map fun cs=>(.ref id 0 0 len,H.put id { cells:=cs,sz:=sz })
 | .load n a=>((rd a).bind (V.cellsAt H)).bind fun c=>(loadV n c).map fun v=>(v,H)
 | .store n a x=>(rd a).bind fun p=>(rd x).bind fun v=>(storeV n p v H).map fun H'=>(V.undef,H')
 | .nilc x=>((rd x).bind nilcV).map fun v=>(v,H)
 | .bin op x y=>(rd x).bind fun a=>(rd y).bind fun b=>(vbin op a b).map fun v=>(v,H)
 | .eqb neg x y=>((rd x).bind asB).bind fun a=>((rd y).bind asB).map fun b=>(.bool ((a == b) != neg),H)
 | .eqn kd neg x y=>(rd x).bind fun a=>(rd y).bind fun b=>if b.isNilLit kd then (a.isNil H kd).map fun r=>(.bool (r != neg),H) else none
 | .un op x=>((rd x).bind (unV op)).map fun v=>(v,H)
 | .cvt k x=>((rd x).bind (cvtV k)).map fun v=>(v,H)
 | .mkif t x=>(rd x).map fun v=>(.ifc t v,H)
 | .mkfn fn first caps=>(rdL rd first).bind fun f=>(rdL rd caps).map fun c=>(.clo fn f c,H)
 | .mksl sz bytes z len cap=>((rd len).bind asI64).bind fun l=>((rd cap).bind asI64).bind fun c =>
   if 0≤l∧l≤c∧bytes * c≤281474976710656∧z.length = sz∧c≤9223372036854775807 then some (.ref id 0 0 l.toNat,H.put id { cells:=zerosV z c.toNat,sz:=sz }) else none
 | .slc arr sz x lo hi mx=>(rd x).bind fun v=>(rdO rd lo).bind fun l=>(rdO rd hi).bind fun h=>(rdO rd mx).bind fun m=>(slV arr sz v l h m H).map fun r=>(r,H)
 | .faddr off x=>((rd x).bind (faddrV off)).map fun r=>(r,H)
 | .fld n off x=>((rd x).bind (fldV n off)).map fun r=>(r,H)
 | .iaddr arr sz x i=>(rd x).bind fun v=>(rd i).bind fun j=>(iaddrV arr sz v j).map fun r=>(r,H)
 | .ext i x=>((rd x).bind asT).bind fun vs=>(vs[i]?).map fun v=>(v,H)
 | .len arr x=>match arr with
  | some n=>some (.int .i64 (n:Int),H)
  | none=>((rd x).bind lenV).map fun (n:Nat)=>(.int .i64 (n:Int),H)
 | .slen x=>((rd x).bind asS).map fun s=>(.int .i64 (s.size:Int),H)
 | .mn xs=>((rdL rd xs).bind (fold1 mn2)).map fun v=>(v,H)
 | .mx xs=>((rdL rd xs).bind (fold1 mx2)).map fun v=>(v,H)
 | .app sz bytes s x=>(rd s).bind fun v=>(rd x).bind fun u=>appV sz bytes v u H id
 | .cpy sz d s=>(rd d).bind fun v=>(rd s).bind fun u=>cpyV sz v u H
 | .aidx n len sz x i=>(rd x).bind fun v=>((rd i).bind vint?).bind fun z=>if 0≤z∧z < (len:Int) then (fldV n (z.toNat * sz) v).map fun r=>(r,H) else none
 | .nilo sz=>some (.ref id 0 0 0,H.put id { cells:=[],sz:=sz,nl:=1 })
 | .call .. | .callv .. | .inv .. | .eqa .. | .bad=>none
 | .loadx n a bs=>(rd a).bind fun p=>if apartV rd p bs then (p.cellsAt H).bind fun c=>(loadV n c).map fun v=>(v,H) else none
 | .loada n a al=>(rd a).bind fun p=>(rd (.t al)).bind fun q=>if p.obj = q.obj then (p.cellsAt H).bind fun c=>(loadV n c).map fun v=>(v,H) else none
 | .appa bs sz bytes s x=>(rd s).bind fun v=>(rd x).bind fun u=>if apartV rd v bs then appV sz bytes v u H id else none
 | .appx al sz bytes s x=>(rd s).bind fun v=>(rd (.t al)).bind fun a=>(rd x).bind fun u=>if v.obj = a.obj then appV sz bytes v u H id else none
 | .appz sz bytes z s n=>(rd s).bind fun v=>((rd n).bind vint?).bind fun k=>appzV sz bytes z v k H id
 | .sidx x i=>((rd x).bind asS).bind fun s=>((rd i).bind vint?).bind fun n=>if 0≤n then (s[n.toNat]?).map fun b=>(.int .u8 b.toNat,H) else none
 | .mkm=>some (.mp id,H.put id { cells:=[],sz:=0,sp:=2 })
 | .lkp kd z ok m k=>(rd m).bind fun p=>(rd k).bind fun q=>(lkpV kd z ok H p q).map fun r=>(r,H)
 | .eqs n neg x y=>((rd x).bind fun a=>(rd y).bind fun b=>eqsV n a b).map fun r=>(.bool (r != neg),H)
 | .mput kd m k x=>(rd m).bind fun p=>(rd k).bind fun q=>(rd x).bind fun u=>(mputV kd H p q u).map fun H'=>(V.undef,H')
def sval:Value→V→Bool
 | .bool a,.bool b=>a == b
 | .int k a,.int k' b=>k == k' && a == b
 | .string a,.str b=>decide (a = b)
 | .pointer none,.nilp=>true
 | .slice none 0 0,.nils=>true
 | .map none,.nilm=>true
 | .nilFunc,.nilf=>true
 | .nilIface,.nili=>true
 | _,_=>false
def svals:List Value→List V→Bool
 | [],[]=>true
 | x::l,v::m=>sval x v && svals l m
 | _,_=>false
def valIs:Value→V→Bool
 | .agg cs,.agg l=>svals cs.toList l
 | .tuple cs,.tup l=>svals cs.toList l
 | x,v=>sval x v
def okOpd:Operand→Opd→Bool
 | .tmp t,.t n=>t == n
 | .const v,.c u=>valIs v u
 | .func f,.c (.clo (.func g) [] [])=>f == g
 | _,_=>false
def okOpds:List Operand→List Opd→Bool
 | [],[]=>true
 | x::l,v::m=>okOpd x v && okOpds l m
 | _,_=>false
def okOpdO:Option Operand→Option Opd→Bool
 | none,none=>true
 | some x,some y=>okOpd x y
 | _,_=>false
def isAggD:TypeDesc→Bool
 | .struct _ | .array _ _=>true
 | _=>false
def sizeIs (P:Program) (t:TypeId) (n:Nat):Bool:=match P.info? t with | some i=>i.size == n | none=>false
def bytesIs (P:Program) (t:TypeId) (n:Nat):Bool:=match P.info? t with | some i=>i.bytes == n | none=>false
def okShape (P:Program) (t:TypeId) (n:Option Nat):Bool :=
 match P.underlying t,n with
 | some d,some k=>isAggD d && sizeIs P t k
 | some d,none=>!isAggD d && (P.info? t).isSome
 | _,_=>false
def zeroIs (P:Program) (t:TypeId) (z:List V):Bool :=
 match P.info? t with
 | some i=>(match i.zero with | some v=>svals v.cells.toList z | none=>false)
 | none=>false
def okParts (place:Nat→Option (Nat × Nat)):List (Nat × Operand)→List (Nat × Nat × Opd)→Bool
 | [],[]=>true
 | (i,x)::l,(off,size,y)::m=>place i == some (off,size) && okOpd x y && okParts place l m
 | _,_=>false
def placesOf (P:Program) (fs:List Field):Option (List (Nat × Nat)):=fs.mapM fun f=>(P.info? f.type).map fun i=>(f.offset,i.size)
def okBuild (P:Program) (t:TypeId) (parts:List (Nat × Operand)) (z:List V) (ps:List (Nat × Nat × Opd)):Bool :=
 zeroIs P t z &&
 match P.underlying t with
 | some (.struct fields)=>match placesOf P fields.toList with
  | some places=>okParts (places.toArray[·]?) parts ps
  | none=>false
 | some (.array _ e)=>match P.info? e with
  | some ie=>okParts (fun i=>some (i * ie.size,ie.size)) parts ps
  | none=>false
 | _=>false
def okBsl (P:Program) (t:TypeId) (len:Nat) (parts:List (Nat × Operand)) (sz:Nat) (z:List V) (ps:List (Nat × Nat × Opd)):Bool :=
 match P.underlying t with
 | some (.slice e)=>sizeIs P e sz && decide (len * sz≤16777216) && okParts (fun i=>some (i * sz,sz)) parts ps &&
   (match P.info? e with
    | some i=>match i.zero with | some v=>decide (v.cells.size = sz) && svals (List.replicate len v.cells.toList).flatten z | none=>false
    | none=>false)
 | _=>false
def okNilT (P:Program) (t:TypeId) (kd:Nat) (y:Operand):Bool :=
 match P.underlying t,kd with
 | some (.pointer _),0=>true
 | some (.slice _),1=>true
 | some (.map _ _),2=>true
 | some (.func _ _ _),3=>true
 | some (.interface _),4=>match y with | .const _=>true | _=>false
 | _,_=>false
def eqneg:BinOp→Bool→Bool
 | .eql,false=>true
 | .neq,true=>true
 | _,_=>false
def concreteT (P:Program) (t:TypeId):Bool:=match P.underlying t with | some (.interface _)=>false | some _=>true | none=>false
def okSliceT (P:Program) (t:TypeId) (arr:Option Nat) (sz:Nat):Bool :=
 match P.underlying t,arr with
 | some (.slice e),none=>sizeIs P e sz
 | some (.array n e),some m=>n == m && sizeIs P e sz
 | _,_=>false
def okField (P:Program) (s:TypeId) (f:Nat) (off:Nat):Bool :=
 match P.underlying s with
 | some (.struct fields)=>match fields[f]? with | some fd=>fd.offset == off && (match P.info? fd.type with | some i=>i.size != 0 | none=>false) | none=>false
 | _=>false
def okFieldV (P:Program) (s:TypeId) (f:Nat) (n:Option Nat) (off:Nat):Bool :=
 match P.underlying s with
 | some (.struct fields)=>match fields[f]? with | some fd=>fd.offset == off && okShape P fd.type n | none=>false
 | _=>false
def okIndexT (P:Program) (t:TypeId) (arr:Option Nat) (sz:Nat):Bool:=okSliceT P t arr sz
def okLenT (P:Program) (t:TypeId) (arr:Option Nat):Bool :=
 match P.underlying t,arr with
 | some (.slice _),none=>true
 | some (.array n _),some m=>n == m
 | _,_=>false
def okAppT (P:Program) (t u:TypeId) (sz bytes:Nat):Bool :=
 t == u && (match P.underlying t with
  | some (.slice e)=>sizeIs P e sz && bytesIs P e bytes && decide (0 < sz) && (match P.info? e with | some i=>(match i.zero with | some v=>decide (v.cells.size = sz) | none=>false) | none=>false)
  | _=>false)
def okCpyT (P:Program) (t u:TypeId) (sz:Nat):Bool :=
 match P.underlying t,P.underlying u with
 | some (.slice e),some (.slice _)=>sizeIs P e sz
 | _,_=>false
def okMakeT (P:Program) (t:TypeId) (sz bytes:Nat) (z:List V):Bool :=
 match P.underlying t with
 | some (.slice e)=>sizeIs P e sz && bytesIs P e bytes && zeroIs P e z
 | _=>false
def intT (P:Program) (t:TypeId):Bool:=match P.underlying t with | some (.int _)=>true | _=>false
def okArrV (P:Program) (t:TypeId) (n:Option Nat) (len sz:Nat):Bool :=
 match P.underlying t with
 | some (.array m e)=>m == len && sizeIs P e sz && okShape P e n
 | _=>false
def isNilS:Operand→Bool
 | .const (.slice none 0 0)=>true
 | _=>false
def okAppzT (P:Program) (t u:TypeId) (sz bytes:Nat) (z:List V):Bool :=
 okAppT P t t sz bytes && intT P u && (match P.underlying t with | some (.slice e)=>zeroIs P e z | _=>false)
def okKeyT (P:Program) (kd:Nat) (t:TypeId):Bool:=match P.underlying t,kd with | some (.int _),0=>true | some .string,1=>true | some .bool,2=>true | _,_=>false
def okMapT (P:Program) (kd:Nat) (t:TypeId):Bool:=match P.underlying t with | some (.map k _)=>okKeyT P kd k | _=>false
def okLkpT (P:Program) (kd:Nat) (t:TypeId) (z:V):Bool :=
 match P.underlying t with
 | some (.map k e)=>okKeyT P kd k && (match P.info? e with | some i=>(match i.zero with | some v=>valIs v z | none=>false) | none=>false)
 | _=>false
def okEqF (P:Program):List Field→Nat→Bool
 | [],_=>true
 | f :: fs, i => f.name != "_" && f.offset == i && P.plainKey f.type && intT P f.type && okEqF P fs (i + 1)
def okEqT (P:Program) (t:TypeId) (n:Nat):Bool :=
 match P.underlying t with
 | some (.struct fs)=>fs.size == n && okEqF P fs.toList 0 && !P.stoodInHeld t && !P.eqGuardType P.depth t
 | some (.array k e)=>k == n && intT P e && P.plainKey e && (P.info? e).isSome && P.cellsOf e == 1 && !P.eqGuardType P.depth t
 | _=>false
def okOp2 (P:Program) (o:Op) (op:IOp):Bool :=
 match o,op with
 | _,.bad=>true
 | .load t a,.loadx n b _=>okOpd a b && okShape P t n
 | .load t a,.loada n b _=>okOpd a b && okShape P t n
 | .call { callee:=.builtin .append,args,argTypes },.appx _ sz bytes s x =>
   (match args.toList,argTypes.toList with | [a,b],[t,u]=>okOpd a s && okOpd b x && okAppT P t u sz bytes | _,_=>false)
 | .call { callee:=.builtin .append,args,argTypes },.appa _ sz bytes s x =>
   (match args.toList,argTypes.toList with | [a,b],[t,u]=>okOpd a s && okOpd b x && okAppT P t u sz bytes | _,_=>false)
 | .call { callee:=.builtin .append,args,argTypes },.appz sz bytes z s n =>
   (match args.toList,argTypes.toList with | [a,b],[t,u]=>okOpd a s && okOpd b n && okAppzT P t u sz bytes z | _,_=>false)
 | .index t x i,.sidx x' i'=>okOpd x x' && okOpd i i' && (match P.underlying t with | some .string=>true | _=>false)
 | .makeMap _ none,.mkm=>true
 | .lookup t m k c,.lkp kd z ok m' k'=>c == ok && okOpd m m' && okOpd k k' && okLkpT P kd t z
 | .mapUpdate t m k x,.mput kd m' k' x'=>okOpd m m' && okOpd k k' && okOpd x x' && okMapT P kd t
 | .insert t m k x,.mput kd m' k' x'=>okOpd m m' && okOpd k k' && okOpd x x' && okMapT P kd t
 | .binOp b t x y _,.eqs n neg x' y'=>eqneg b neg && okOpd x x' && okOpd y y' && okEqT P t n
 | _,_=>false
def okOp (P:Program) (o:Op) (op:IOp):Bool :=
 match o,op with
 | .move x,.mv y=>okOpd x y
 | .assign x,.mv y=>okOpd x y
 | .pick a b c,.pick a' b' c'=>okOpd a a' && okOpd b b' && okOpd c c'
 | .alloc t,.alloc z _=>zeroIs P t z
 | .box _ x,.box _ y=>okOpd x y
 | .build t parts,.build z ps=>okBuild P t parts.toList z ps
 | .buildSlice t len parts,.bsl sz len' z ps=>len == len' && okBsl P t len parts.toList sz z ps
 | .load t a,.load n b=>okOpd a b && okShape P t n
 | .store t a x,.store n b y=>okOpd a b && okOpd x y && sizeIs P t n
 | .nilCheck x,.nilc y=>okOpd x y
 | .binOp b _ x y _,.bin b' x' y'=>decide (b = b') && okOpd x x' && okOpd y y'
 | .binOp b t x y _,.eqb neg x' y'=>eqneg b neg && okOpd x x' && okOpd y y' && (match P.underlying t with | some .bool=>true | _=>false)
 | .binOp b t x y _,.eqn kd neg x' y'=>eqneg b neg && okOpd x x' && okOpd y y' && okNilT P t kd y
 | .unOp u _ x,.un u' x'=>decide (u = u') && okOpd x x'
 | .convert s d x,.cvt k x'=>okOpd x x' && intT P s && (match P.underlying d with | some (.int k')=>decide (k = k') | _=>false)
 | .makeInterface t x,.mkif t' x'=>t == t' && okOpd x x' && concreteT P t
 | .makeFunc fn f c,.mkfn fn' f' c'=>decide (fn = fn') && okOpds f.toList f' && okOpds c.toList c'
 | .makeSlice t l c,.mksl sz bytes z l' c'=>okOpd l l' && okOpd c c' && okMakeT P t sz bytes z
 | .slice t x lo hi mx,.slc arr sz x' lo' hi' mx'=>okOpd x x' && okOpdO lo lo' && okOpdO hi hi' && okOpdO mx mx' && okSliceT P t arr sz
 | .fieldAddr s x f,.faddr off x'=>okOpd x x' && okField P s f off
 | .field s x f,.fld n off x'=>okOpd x x' && okFieldV P s f n off
 | .indexAddr t x i,.iaddr arr sz x' i'=>okOpd x x' && okOpd i i' && okIndexT P t arr sz
 | .extract x i,.ext i' x'=>i == i' && okOpd x x'
 | .call { callee:=.builtin .len,args,argTypes },.len arr x' =>
   (match args.toList,argTypes.toList with | [x],[t]=>okOpd x x' && okLenT P t arr | _,_=>false)
 | .call { callee:=.builtin .len,args,argTypes },.slen x' =>
   (match args.toList,argTypes.toList with | [x],[t]=>okOpd x x' && (match P.underlying t with | some .string=>true | _=>false) | _,_=>false)
 | .call { callee:=.builtin .min,args,.. },.mn xs=>okOpds args.toList xs
 | .call { callee:=.builtin .max,args,.. },.mx xs=>okOpds args.toList xs
 | .call { callee:=.builtin .append,args,argTypes },.app sz bytes s x =>
   (match args.toList,argTypes.toList with | [a,b],[t,u]=>okOpd a s && okOpd b x && okAppT P t u sz bytes | _,_=>false)
 | .call { callee:=.builtin .copy,args,argTypes },.cpy sz d s =>
   (match args.toList,argTypes.toList with | [a,b],[t,u]=>okOpd a d && okOpd b s && okCpyT P t u sz | _,_=>false)
 | .call { callee := .value (.func f), args, .. }, .call f' xs => f == f' && okOpds args.toList xs && (P.funcs[f]?).any (fun fn => fn.body.isSome && fn.name != "runtime.NumGoroutine")
 | .call { callee:=.value g,args,.. },.callv g' xs=>okOpd g g' && okOpds args.toList xs
 | .call { callee:=.invoke r name,args,.. },.inv name' r' xs=>decide (name = name') && okOpd r r' && okOpds args.toList xs
 | .index t x i,.aidx n len sz x' i'=>okOpd x x' && okOpd i i' && okArrV P t n len sz
 | .move x,.nilo _=>isNilS x
 | .assign x,.nilo _=>isNilS x
 | o,op=>okOp2 P o op
theorem sval_dr {G:Gm} {x:Value} {v:V} (h:sval x v = true):DR G v x:=by
 unfold sval at h
 split at h <;> simp at h
 ·subst h;exact .bool _
 ·obtain ⟨rfl,rfl⟩:=h;exact .int _ _
 ·subst h;exact .str _
 ·exact .nilp
 ·exact .nils
 ·exact .nilm
 ·exact .nilf
 ·exact .nili
theorem svals_dr {G:Gm}:∀ {l:List Value} {m:List V},svals l m = true→DRL G m l
 | [],[],_=>.nil
 | x::l,v::m,h=>by simp [svals] at h;exact .cons (sval_dr h.1) (svals_dr h.2)
 | [],_::_,h=>by simp [svals] at h
 | _::_,[],h=>by simp [svals] at h
theorem sval_one {x:Value} {v:V} (h:sval x v = true):x.oneCell' = true:=by
 unfold sval at h
 split at h <;> first | rfl | cases h
theorem svals_ones:∀ {l:List Value} {m:List V},svals l m = true→Ones l
 | [],_,_=>fun x hx=>by cases hx
 | x::l,v::m,h=>by
  simp [svals] at h
  intro y hy
  rcases List.mem_cons.1 hy with rfl | hy
  ·exact sval_one h.1
  ·exact svals_ones h.2 y hy
 | _::_,[],h=>by simp [svals] at h
theorem valIs_dr {G:Gm} {x:Value} {v:V} (h:valIs x v = true):DR G v x:=by
 unfold valIs at h
 split at h
 ·rename_i cs l;have:=DR.agg (svals_dr (G:=G) h) (svals_ones h);simpa using this
 ·rename_i cs l;have:=DR.tup (svals_dr (G:=G) h);simpa using this
 ·exact sval_dr h
end Go.Dp
