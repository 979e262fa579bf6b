import Derived.Test.YtlbjgnkjicifhaaGreatDpOps
import Derived.Laws.OwnMore
import Derived.Laws.Slices
import Derived.Laws.Build
import Derived.Laws.Pointers
import Derived.WalkSpells
import Derived.Laws.StructEq
namespace Go.Dp
open Go.RowKit
def sval:Value→V→Bool
 | .bool a,.bool b=>a == b
 | .int k a,.int k' b=>k == k' && a == b
 | .string a,.str b=>decide (a = b)
 | .pointer none,.nilp=>true
 | .slice none 0 0,.nils=>true
 | .map none,.nilm=>true
 | .nilFunc,.nilf=>true
 | .nilIface,.nili=>true
 | _,_=>false
def svals:List Value→List V→Bool
 | [],[]=>true
 | x::l,v::m=>sval x v && svals l m
 | _,_=>false
def valIs:Value→V→Bool
 | .agg cs,.agg l=>svals cs.toList l
 | .tuple cs,.tup l=>svals cs.toList l
 | x,v=>sval x v
def okOpd:Operand→Opd→Bool
 | .tmp t,.t n=>t == n
 | .const v,.c u=>valIs v u
 | .func f,.c (.clo (.func g) [] [])=>f == g
 | _,_=>false
def okOpds:List Operand→List Opd→Bool
 | [],[]=>true
 | x::l,v::m=>okOpd x v && okOpds l m
 | _,_=>false
def okOpdO:Option Operand→Option Opd→Bool
 | none,none=>true
 | some x,some y=>okOpd x y
 | _,_=>false
def isAggD:TypeDesc→Bool
 | .struct _ | .array _ _=>true
 | _=>false
def sizeIs (P:Program) (t:TypeId) (n:Nat):Bool:=match P.info? t with | some i=>i.size == n | none=>false
def bytesIs (P:Program) (t:TypeId) (n:Nat):Bool:=match P.info? t with | some i=>i.bytes == n | none=>false
def okShape (P:Program) (t:TypeId) (n:Option Nat):Bool :=
 match P.underlying t,n with
 | some d,some k=>isAggD d && sizeIs P t k
 | some d,none=>!isAggD d && (P.info? t).isSome
 | _,_=>false
def zeroIs (P:Program) (t:TypeId) (z:List V):Bool :=
 match P.info? t with
 | some i=>(match i.zero with | some v=>svals v.cells.toList z | none=>false)
 | none=>false
def okParts (place:Nat→Option (Nat × Nat)):List (Nat × Operand)→List (Nat × Nat × Opd)→Bool
 | [],[]=>true
 | (i,x)::l,(off,size,y)::m=>place i == some (off,size) && okOpd x y && okParts place l m
 | _,_=>false
def placesOf (P:Program) (fs:List Field):Option (List (Nat × Nat)):=fs.mapM fun f=>(P.info? f.type).map fun i=>(f.offset,i.size)
def okBuild (P:Program) (t:TypeId) (parts:List (Nat × Operand)) (z:List V) (ps:List (Nat × Nat × Opd)):Bool :=
 zeroIs P t z &&
 match P.underlying t with
 | some (.struct fields)=>match placesOf P fields.toList with
  | some places=>okParts (places.toArray[·]?) parts ps
  | none=>false
 | some (.array _ e)=>match P.info? e with
  | some ie=>okParts (fun i=>some (i * ie.size,ie.size)) parts ps
  | none=>false
 | _=>false
def okBsl (P:Program) (t:TypeId) (len:Nat) (parts:List (Nat × Operand)) (sz:Nat) (z:List V) (ps:List (Nat × Nat × Opd)):Bool :=
 match P.underlying t with
 | some (.slice e)=>sizeIs P e sz && decide (len * sz≤16777216) && okParts (fun i=>some (i * sz,sz)) parts ps &&
   (match P.info? e with
    | some i=>match i.zero with | some v=>decide (v.cells.size = sz) && svals (List.replicate len v.cells.toList).flatten z | none=>false
    | none=>false)
 | _=>false
def okNilT (P:Program) (t:TypeId) (kd:Nat) (y:Operand):Bool :=
 match P.underlying t,kd with
 | some (.pointer _),0=>true
 | some (.slice _),1=>true
 | some (.map _ _),2=>true
 | some (.func _ _ _),3=>true
 | some (.interface _),4=>match y with | .const _=>true | _=>false
 | _,_=>false
def eqneg:BinOp→Bool→Bool
 | .eql,false=>true
 | .neq,true=>true
 | _,_=>false
def concreteT (P:Program) (t:TypeId):Bool:=match P.underlying t with | some (.interface _)=>false | some _=>true | none=>false
def okSliceT (P:Program) (t:TypeId) (arr:Option Nat) (sz:Nat):Bool :=
 match P.underlying t,arr with
 | some (.slice e),none=>sizeIs P e sz
 | some (.array n e),some m=>n == m && sizeIs P e sz
 | _,_=>false
def okField (P:Program) (s:TypeId) (f:Nat) (off:Nat):Bool :=
 match P.underlying s with
 | some (.struct fields)=>match fields[f]? with | some fd=>fd.offset == off && (match P.info? fd.type with | some i=>i.size != 0 | none=>false) | none=>false
 | _=>false
def okFieldV (P:Program) (s:TypeId) (f:Nat) (n:Option Nat) (off:Nat):Bool :=
 match P.underlying s with
 | some (.struct fields)=>match fields[f]? with | some fd=>fd.offset == off && okShape P fd.type n | none=>false
 | _=>false
def okIndexT (P:Program) (t:TypeId) (arr:Option Nat) (sz:Nat):Bool:=okSliceT P t arr sz
def okLenT (P:Program) (t:TypeId) (arr:Option Nat):Bool :=
 match P.underlying t,arr with
 | some (.slice _),none=>true
 | some (.array n _),some m=>n == m
 | _,_=>false
def okAppT (P:Program) (t u:TypeId) (sz bytes:Nat):Bool :=
 t == u && (match P.underlying t with
  | some (.slice e)=>sizeIs P e sz && bytesIs P e bytes && decide (0 < sz) && (match P.info? e with | some i=>(match i.zero with | some v=>decide (v.cells.size = sz) | none=>false) | none=>false)
  | _=>false)
def okCpyT (P:Program) (t u:TypeId) (sz:Nat):Bool :=
 match P.underlying t,P.underlying u with
 | some (.slice e),some (.slice _)=>sizeIs P e sz
 | _,_=>false
def okMakeT (P:Program) (t:TypeId) (sz bytes:Nat) (z:List V):Bool :=
 match P.underlying t with
 | some (.slice e)=>sizeIs P e sz && bytesIs P e bytes && zeroIs P e z
 | _=>false
def intT (P:Program) (t:TypeId):Bool:=match P.underlying t with | some (.int _)=>true | _=>false
def okArrV (P:Program) (t:TypeId) (n:Option Nat) (len sz:Nat):Bool :=
 match P.underlying t with
 | some (.array m e)=>m == len && sizeIs P e sz && okShape P e n
 | _=>false
def isNilS:Operand→Bool
 | .const (.slice none 0 0)=>true
 | _=>false
def okAppzT (P:Program) (t u:TypeId) (sz bytes:Nat) (z:List V):Bool :=
 okAppT P t t sz bytes && intT P u && (match P.underlying t with | some (.slice e)=>zeroIs P e z | _=>false)
def okKeyT (P:Program) (kd:Nat) (t:TypeId):Bool:=match P.underlying t,kd with | some (.int _),0=>true | some .string,1=>true | some .bool,2=>true | _,_=>false
def okMapT (P:Program) (kd:Nat) (t:TypeId):Bool:=match P.underlying t with | some (.map k _)=>okKeyT P kd k | _=>false
def okLkpT (P:Program) (kd:Nat) (t:TypeId) (z:V):Bool :=
 match P.underlying t with
 | some (.map k e)=>okKeyT P kd k && (match P.info? e with | some i=>(match i.zero with | some v=>valIs v z | none=>false) | none=>false)
 | _=>false
def okEqF (P:Program):List Field→Nat→Bool
 | [],_=>true
 | f :: fs, i => f.name != "_" && f.offset == i && P.plainKey f.type && intT P f.type && okEqF P fs (i + 1)
def okEqT (P:Program) (t:TypeId) (n:Nat):Bool :=
 match P.underlying t with
 | some (.struct fs)=>fs.size == n && okEqF P fs.toList 0 && !P.stoodInHeld t && !P.eqGuardType P.depth t
 | some (.array k e)=>k == n && intT P e && P.plainKey e && (P.info? e).isSome && P.cellsOf e == 1 && !P.eqGuardType P.depth t
 | _=>false
def okOp2 (P:Program) (o:Op) (op:IOp):Bool :=
 match o,op with
 | _,.bad=>true
 | .load t a,.loadx n b _=>okOpd a b && okShape P t n
 | .load t a,.loada n b _=>okOpd a b && okShape P t n
 | .call { callee:=.builtin .append,args,argTypes },.appx _ sz bytes s x =>
   (match args.toList,argTypes.toList with | [a,b],[t,u]=>okOpd a s && okOpd b x && okAppT P t u sz bytes | _,_=>false)
 | .call { callee:=.builtin .append,args,argTypes },.appa _ sz bytes s x =>
   (match args.toList,argTypes.toList with | [a,b],[t,u]=>okOpd a s && okOpd b x && okAppT P t u sz bytes | _,_=>false)
 | .call { callee:=.builtin .append,args,argTypes },.appz sz bytes z s n =>
   (match args.toList,argTypes.toList with | [a,b],[t,u]=>okOpd a s && okOpd b n && okAppzT P t u sz bytes z | _,_=>false)
 | .index t x i,.sidx x' i'=>okOpd x x' && okOpd i i' && (match P.underlying t with | some .string=>true | _=>false)
 | .makeMap _ none,.mkm=>true
 | .lookup t m k c,.lkp kd z ok m' k'=>c == ok && okOpd m m' && okOpd k k' && okLkpT P kd t z
 | .mapUpdate t m k x,.mput kd m' k' x'=>okOpd m m' && okOpd k k' && okOpd x x' && okMapT P kd t
 | .insert t m k x,.mput kd m' k' x'=>okOpd m m' && okOpd k k' && okOpd x x' && okMapT P kd t
 | .binOp b t x y _,.eqs n neg x' y'=>eqneg b neg && okOpd x x' && okOpd y y' && okEqT P t n
 | _,_=>false
def okOp (P:Program) (o:Op) (op:IOp):Bool :=
 match o,op with
 | .move x,.mv y=>okOpd x y
 | .assign x,.mv y=>okOpd x y
 | .pick a b c,.pick a' b' c'=>okOpd a a' && okOpd b b' && okOpd c c'
 | .alloc t,.alloc z _=>zeroIs P t z
 | .box _ x,.box _ y=>okOpd x y
 | .build t parts,.build z ps=>okBuild P t parts.toList z ps
 | .buildSlice t len parts,.bsl sz len' z ps=>len == len' && okBsl P t len parts.toList sz z ps
 | .load t a,.load n b=>okOpd a b && okShape P t n
 | .store t a x,.store n b y=>okOpd a b && okOpd x y && sizeIs P t n
 | .nilCheck x,.nilc y=>okOpd x y
 | .binOp b _ x y _,.bin b' x' y'=>decide (b = b') && okOpd x x' && okOpd y y'
 | .binOp b t x y _,.eqb neg x' y'=>eqneg b neg && okOpd x x' && okOpd y y' && (match P.underlying t with | some .bool=>true | _=>false)
 | .binOp b t x y _,.eqn kd neg x' y'=>eqneg b neg && okOpd x x' && okOpd y y' && okNilT P t kd y
 | .unOp u _ x,.un u' x'=>decide (u = u') && okOpd x x'
 | .convert s d x,.cvt k x'=>okOpd x x' && intT P s && (match P.underlying d with | some (.int k')=>decide (k = k') | _=>false)
 | .makeInterface t x,.mkif t' x'=>t == t' && okOpd x x' && concreteT P t
 | .makeFunc fn f c,.mkfn fn' f' c'=>decide (fn = fn') && okOpds f.toList f' && okOpds c.toList c'
 | .makeSlice t l c,.mksl sz bytes z l' c'=>okOpd l l' && okOpd c c' && okMakeT P t sz bytes z
 | .slice t x lo hi mx,.slc arr sz x' lo' hi' mx'=>okOpd x x' && okOpdO lo lo' && okOpdO hi hi' && okOpdO mx mx' && okSliceT P t arr sz
 | .fieldAddr s x f,.faddr off x'=>okOpd x x' && okField P s f off
 | .field s x f,.fld n off x'=>okOpd x x' && okFieldV P s f n off
 | .indexAddr t x i,.iaddr arr sz x' i'=>okOpd x x' && okOpd i i' && okIndexT P t arr sz
 | .extract x i,.ext i' x'=>i == i' && okOpd x x'
 | .call { callee:=.builtin .len,args,argTypes },.len arr x' =>
   (match args.toList,argTypes.toList with | [x],[t]=>okOpd x x' && okLenT P t arr | _,_=>false)
 | .call { callee:=.builtin .len,args,argTypes },.slen x' =>
   (match args.toList,argTypes.toList with | [x],[t]=>okOpd x x' && (match P.underlying t with | some .string=>true | _=>false) | _,_=>false)
 | .call { callee:=.builtin .min,args,.. },.mn xs=>okOpds args.toList xs
 | .call { callee:=.builtin .max,args,.. },.mx xs=>okOpds args.toList xs
 | .call { callee:=.builtin .append,args,argTypes },.app sz bytes s x =>
   (match args.toList,argTypes.toList with | [a,b],[t,u]=>okOpd a s && okOpd b x && okAppT P t u sz bytes | _,_=>false)
 | .call { callee:=.builtin .copy,args,argTypes },.cpy sz d s =>
   (match args.toList,argTypes.toList with | [a,b],[t,u]=>okOpd a d && okOpd b s && okCpyT P t u sz | _,_=>false)
 | .call { callee := .value (.func f), args, .. }, .call f' xs => f == f' && okOpds args.toList xs && (P.funcs[f]?).any (fun fn => fn.body.isSome && fn.name != "runtime.NumGoroutine")
 | .call { callee:=.value g,args,.. },.callv g' xs=>okOpd g g' && okOpds args.toList xs
 | .call { callee:=.invoke r name,args,.. },.inv name' r' xs=>decide (name = name') && okOpd r r' && okOpds args.toList xs
 | .index t x i,.aidx n len sz x' i'=>okOpd x x' && okOpd i i' && okArrV P t n len sz
 | .move x,.nilo _=>isNilS x
 | .assign x,.nilo _=>isNilS x
 | o,op=>okOp2 P o op
theorem sval_dr {G:Gm} {x:Value} {v:V} (h:sval x v = true):DR G v x:=by
 unfold sval at h
 split at h <;> simp at h
 ·subst h;exact .bool _
 ·obtain ⟨rfl,rfl⟩:=h;exact .int _ _
 ·subst h;exact .str _
 ·exact .nilp
 ·exact .nils
 ·exact .nilm
 ·exact .nilf
 ·exact .nili
theorem svals_dr {G:Gm}:∀ {l:List Value} {m:List V},svals l m = true→DRL G m l
 | [],[],_=>.nil
 | x::l,v::m,h=>by simp [svals] at h;exact .cons (sval_dr h.1) (svals_dr h.2)
 | [],_::_,h=>by simp [svals] at h
 | _::_,[],h=>by simp [svals] at h
theorem sval_one {x:Value} {v:V} (h:sval x v = true):x.oneCell' = true:=by
 unfold sval at h
 split at h <;> first | rfl | cases h
theorem svals_ones:∀ {l:List Value} {m:List V},svals l m = true→Ones l
 | [],_,_=>fun x hx=>by cases hx
 | x::l,v::m,h=>by
  simp [svals] at h
  intro y hy
  rcases List.mem_cons.1 hy with rfl | hy
  ·exact sval_one h.1
  ·exact svals_ones h.2 y hy
 | _::_,[],h=>by simp [svals] at h
theorem valIs_dr {G:Gm} {x:Value} {v:V} (h:valIs x v = true):DR G v x:=by
 unfold valIs at h
 split at h
 ·rename_i cs l;have:=DR.agg (svals_dr (G:=G) h) (svals_ones h);simpa using this
 ·rename_i cs l;have:=DR.tup (svals_dr (G:=G) h);simpa using this
 ·exact sval_dr h
def OpOut (P:Program) (o:Oper) (a:Act) (w w0:World) (G:Gm) (σ:Sg) (H':Hp) (D':Nat→Prop) (v:V):Prop :=
 ∃ x w' σ',((execOp a.eval o).run P w = .ok (.value x) w'∨((execOp a.eval o).run P w = .ok .skip w'∧x = undef))∧NC w w'∧SExt σ σ'∧Rel w0 G σ' H' D' w'∧VR G σ' v x
section
variable {P:Program} {o:Oper} {a:Act} {w w0:World} {G:Gm} {σ:Sg} {H H':Hp} {D:Nat→Prop} {id:Nat} {rd:Opd→Option V} {v:V}
def RdR (G:Gm) (σ:Sg) (a:Act) (rd:Opd→Option V):Prop:=∀ X x,okOpd X x = true→∀ v,rd x = some v→VR G σ v (a.eval X)
theorem out_same (h:Rel w0 G σ H D w) {x:Value} (hr:(execOp a.eval o).run P w = .ok (.value x) w) (hv:VR G σ v x) :
  OpOut P o a w w0 G σ H (fun o=>D o∨o = id) v :=
 ⟨x,w,σ,.inl hr,NC.refl _,SExt.refl _,h.weaken fun _=>.inl,hv⟩
theorem rdL_vrl (hrd:RdR G σ a rd):∀ {X:List Operand} {x:List Opd},okOpds X x = true→∀ {l:List V},rdL rd x = some l→VRL G σ l (X.map a.eval)
 | [],[],_,l,h=>by simp [rdL] at h;subst h;exact .nil
 | X::Xs,x::xs,hok,l,h=>by
  simp [okOpds] at hok
  simp only [rdL,Option.bind_eq_some_iff,Option.map_eq_some_iff] at h
  obtain ⟨v,hv,m,hm,rfl⟩:=h
  exact .cons (hrd X x hok.1 v hv) (rdL_vrl hrd hok.2 hm)
 | [],_::_,hok,_,_=>by simp [okOpds] at hok
 | _::_,[],hok,_,_=>by simp [okOpds] at hok
theorem VR.int_inv {k:IntKind} {n:Int} {x:Value} (h:VR G σ (.int k n) x):x = .int k n:=by
 cases h with | deep h=>cases h;rfl
theorem VR.bool_inv {b:Bool} {x:Value} (h:VR G σ (.bool b) x):x = .bool b:=by
 cases h with | deep h=>cases h;rfl
theorem VR.str_inv {s:ByteArray} {x:Value} (h:VR G σ (.str s) x):x = .string s:=by
 cases h with | deep h=>cases h;rfl
theorem VR.agg_inv {l:List V} {x:Value} (h:VR G σ (.agg l) x):∃ vs,x = .agg vs.toArray∧VRL G σ l vs∧Ones vs:=by
 cases h with
 | deep h=>cases h with | agg h h1=>exact ⟨_,rfl,h.vrl,h1⟩
 | agg h h1=>exact ⟨_,rfl,h,h1⟩
theorem VR.tup_inv {l:List V} {x:Value} (h:VR G σ (.tup l) x):∃ vs,x = .tuple vs.toArray∧VRL G σ l vs:=by
 cases h with
 | deep h=>cases h with | tup h=>exact ⟨_,rfl,h.vrl⟩
 | tup h=>exact ⟨_,rfl,h⟩
theorem VR.cellsOf {v:V} {x:Value} {cs:List V} (h:VR G σ v x) (hc:v.cellsOf = some cs):VRL G σ cs x.cells.toList∧Ones x.cells.toList:=by
 have one:∀ (_:cs = [v]) (_:x.cells = #[x]) (_:x.oneCell' = true),VRL G σ cs x.cells.toList∧Ones x.cells.toList:=fun e e1 e2=>by
  rw [e1,e];exact ⟨.cons h .nil,fun y hy=>by simp at hy;subst hy;exact e2⟩
 cases v with
 | agg l=>obtain ⟨vs,rfl,hl,h1⟩:=h.agg_inv;simp [V.cellsOf] at hc;subst hc;exact ⟨by simpa [Value.cells] using hl,by simpa [Value.cells] using h1⟩
 | tup l=>simp [V.cellsOf] at hc
 | _ =>
  simp [V.cellsOf] at hc
  refine one hc.symm ?_ ?_
  all_goals
   cases h with
   | deep h=>cases h <;> rfl
   | _=>rfl
theorem s_mv {X:Operand} {x:Opd} (ho:o.op = .move X∨o.op = .assign X) (hrd:RdR G σ a rd) (hok:okOpd X x = true) (hrel:Rel w0 G σ H D w)
  (hst:stepOp (.mv x) rd H id = some (v,H')):OpOut P o a w w0 G σ H' (fun o=>D o∨o = id) v:=by
 simp only [stepOp,Option.map_eq_some_iff] at hst
 obtain ⟨u,hu,e⟩:=hst
 cases e
 refine out_same hrel (x:=a.eval X) ?_ (hrd X x hok _ hu)
 rcases ho with ho | ho <;> simp [execOp,ho]
theorem s_pick {C A B:Operand} {c x y:Opd} (ho:o.op = .pick C A B) (hrd:RdR G σ a rd) (h1:okOpd C c = true) (h2:okOpd A x = true) (h3:okOpd B y = true) (hrel:Rel w0 G σ H D w)
  (hst:stepOp (.pick c x y) rd H id = some (v,H')):OpOut P o a w w0 G σ H' (fun o=>D o∨o = id) v:=by
 simp only [stepOp,Option.map_eq_some_iff,Option.bind_eq_some_iff] at hst
 obtain ⟨t,⟨cv,hc,hb⟩,u,hu,e⟩:=hst
 cases e
 have hcv:=hrd C c h1 _ hc
 cases cv <;> simp [asB] at hb
 subst hb
 have e:=hcv.bool_inv
 rename_i t
 refine out_same hrel (x:=if t then a.eval A else a.eval B) ?_ ?_
 ·simp [execOp,ho,e,asBool]
 ·cases t with
  | true=>simp at hu;exact hrd A x h2 _ hu
  | false=>simp at hu;exact hrd B y h3 _ hu
def V.scal:V→Value
 | .bool b=>.bool b
 | .int k n=>.int k n
 | _=>Go.undef
theorem run_exec_bin {b:BinOp} {t u:TypeId} {X Y:Operand} (ho:o.op = .binOp b t X Y u) :
  (execOp a.eval o).run P w = ((eqGuard b t X Y (a.eval X) (a.eval Y)).run P w).andThen fun _ w'=>((binOp b t (a.eval X) (a.eval Y)).run P w').andThen fun v w''=>.ok (.value v) w'':=by
 unfold execOp;simp only [ho,Sem.run_bind,Sem.run_pure]
 cases (eqGuard b t X Y (a.eval X) (a.eval Y)).run P w <;> rfl
theorem vint_sound {b:BinOp} {t:TypeId} {k:IntKind} {m n:Int} {r:V} (h:vint b k m n = some r) (h1:b≠.shl) (h2:b≠.shr):(binOp b t (.int k m) (.int k n)).run P w = .ok r.scal w∧DR G r r.scal:=by
 unfold vint at h
 split at h
 all_goals first
  | (cases h;exact ⟨by simp only [binOp,ne_eq,not_true_eq_false,if_false];rfl,.int _ _⟩)
  | (cases h;exact ⟨by simp only [binOp,ne_eq,not_true_eq_false,if_false];rfl,.bool _⟩)
  | (split at h
     ·cases h
     ·rename_i hn;cases h;exact ⟨by simp only [binOp,ne_eq,not_true_eq_false,if_false,Op.intDiv,hn];rfl,.int _ _⟩)
  | cases h
theorem vshift_sound {b:BinOp} {t:TypeId} {k k':IntKind} {m n:Int} {r:V} (h:vshift b k m n = some r):(binOp b t (.int k m) (.int k' n)).run P w = .ok r.scal w∧DR G r r.scal:=by
 unfold vshift at h
 split at h
 ·split at h
  ·cases h
  ·rename_i hn;cases h;exact ⟨by simp [binOp,Op.shift,V.scal,hn],.int _ _⟩
 ·split at h
  ·cases h
  ·rename_i hn;cases h;exact ⟨by simp [binOp,Op.shift,V.scal,hn],.int _ _⟩
 ·cases h
theorem s_bin {b:BinOp} {t u:TypeId} {X Y:Operand} {x y:Opd} (ho:o.op = .binOp b t X Y u) (hrd:RdR G σ a rd) (h1:okOpd X x = true) (h2:okOpd Y y = true) (hrel:Rel w0 G σ H D w)
  (hst:stepOp (.bin b x y) rd H id = some (v,H')):OpOut P o a w w0 G σ H' (fun o=>D o∨o = id) v:=by
 simp only [stepOp,Option.map_eq_some_iff,Option.bind_eq_some_iff] at hst
 obtain ⟨p,hp,q,hq,r,hr,e⟩:=hst
 cases e
 have e1:=hrd X x h1 _ hp
 have e2:=hrd Y y h2 _ hq
 unfold vbin at hr
 split at hr
 ·rename_i k m k' n
  have f1:=e1.int_inv
  have f2:=e2.int_inv
  have hgd:(eqGuard b t X Y (.int k m) (.int k' n)).run P w = .ok () w:=by
   unfold eqGuard
   cases b <;> rfl
  have key:(binOp b t (.int k m) (.int k' n)).run P w = .ok v.scal w∧DR G v v.scal:=by
   split at hr
   ·exact vshift_sound hr
   ·rename_i hs
    split at hr
    ·rename_i hk;subst hk;exact vint_sound hr (fun e=>hs (.inl e)) (fun e=>hs (.inr e))
    ·cases hr
  refine out_same hrel (x:=v.scal) ?_ (.deep key.2)
  rw [run_exec_bin ho,f1,f2,hgd,Result.andThen_ok,key.1,Result.andThen_ok]
 ·cases hr
theorem s_eqb {b:BinOp} {t u:TypeId} {X Y:Operand} {x y:Opd} {neg:Bool} (ho:o.op = .binOp b t X Y u) (hb:eqneg b neg = true) (hrd:RdR G σ a rd)
  (h1:okOpd X x = true) (h2:okOpd Y y = true) (ht:P.underlying t = some .bool) (hrel:Rel w0 G σ H D w)
  (hst:stepOp (.eqb neg x y) rd H id = some (v,H')):OpOut P o a w w0 G σ H' (fun o=>D o∨o = id) v:=by
 simp only [stepOp,Option.map_eq_some_iff,Option.bind_eq_some_iff] at hst
 obtain ⟨p,⟨pv,hp,hp2⟩,q,⟨qv,hq,hq2⟩,e⟩:=hst
 cases e
 have e1:=hrd X x h1 _ hp
 have e2:=hrd Y y h2 _ hq
 cases pv <;> simp [asB] at hp2
 cases qv <;> simp [asB] at hq2
 subst hp2;subst hq2
 have f1:=e1.bool_inv
 have f2:=e2.bool_inv
 rename_i p q
 have hgd:(eqGuard b t X Y (.bool p) (.bool q)).run P w = .ok () w:=by unfold eqGuard;cases b <;> rfl
 have hq:(Op.equal t (.bool p) (.bool q)).run P w = .ok (p == q) w:=by
  unfold Op.equal Op.maxDepth
  exact run_equalIn_bool w 9999 t p q ht
 refine out_same hrel (x:=.bool ((p == q) != neg)) ?_ (.deep (.bool _))
 rw [run_exec_bin ho,f1,f2,hgd,Result.andThen_ok]
 unfold eqneg at hb;split at hb
 ·rw [show binOp .eql t (.bool p) (.bool q) = (Op.equal t (.bool p) (.bool q) >>= fun b=>pure (.bool b)) from rfl,Sem.run_bind,hq]
  simp only [Result.andThen_ok,Sem.run_pure]
  cases p <;> cases q <;> rfl
 ·rw [show binOp .neq t (.bool p) (.bool q) = (Op.equal t (.bool p) (.bool q) >>= fun b=>pure (.bool !b)) from rfl,Sem.run_bind,hq]
  simp only [Result.andThen_ok,Sem.run_pure]
  cases p <;> cases q <;> rfl
 ·cases hb
theorem run_exec_un {u:UnOp} {t:TypeId} {X:Operand} (ho:o.op = .unOp u t X) :
  (execOp a.eval o).run P w = ((Op.unary u (a.eval X)).run P w).andThen fun v w'=>.ok (.value v) w':=by
 unfold execOp;simp only [ho,Sem.run_bind,Sem.run_pure]
theorem s_un {u:UnOp} {t:TypeId} {X:Operand} {x:Opd} (ho:o.op = .unOp u t X) (hrd:RdR G σ a rd) (h1:okOpd X x = true) (hrel:Rel w0 G σ H D w)
  (hst:stepOp (.un u x) rd H id = some (v,H')):OpOut P o a w w0 G σ H' (fun o=>D o∨o = id) v:=by
 simp only [stepOp,Option.map_eq_some_iff,Option.bind_eq_some_iff] at hst
 obtain ⟨r,⟨p,hp,hr⟩,e⟩:=hst
 cases e
 have e1:=hrd X x h1 _ hp
 unfold unV at hr
 split at hr
 ·have f1:=e1.int_inv
  cases hr
  refine out_same hrel (x:=.int _ _) ?_ (.deep (.int _ _))
  rw [run_exec_un ho,f1];rfl
 ·have f1:=e1.bool_inv
  cases hr
  refine out_same hrel (x:=.bool _) ?_ (.deep (.bool _))
  rw [run_exec_un ho,f1];rfl
 ·have f1:=e1.int_inv
  simp only [vint,Option.some.injEq] at hr
  subst hr
  refine out_same hrel (x:=.int _ _) ?_ (.deep (.int _ _))
  rw [run_exec_un ho,f1];rfl
 ·cases hr
theorem s_cvt {s d:TypeId} {k:IntKind} {X:Operand} {x:Opd} (ho:o.op = .convert s d X) (hrd:RdR G σ a rd) (h1:okOpd X x = true) (hs:intT P s = true) (hd:P.underlying d = some (.int k)) (hrel:Rel w0 G σ H D w)
  (hst:stepOp (.cvt k x) rd H id = some (v,H')):OpOut P o a w w0 G σ H' (fun o=>D o∨o = id) v:=by
 simp only [stepOp,Option.map_eq_some_iff,Option.bind_eq_some_iff] at hst
 obtain ⟨r,⟨p,hp,hr⟩,e⟩:=hst
 cases e
 have e1:=hrd X x h1 _ hp
 cases p <;> simp [cvtV] at hr
 have f1:=e1.int_inv
 subst hr
 unfold intT at hs
 split at hs <;> simp at hs
 rename_i k2 hs2
 exact out_same hrel (by simp [execOp,ho,f1,convert,run_underlying hs2,run_underlying hd,Conv.intToInt]) (.deep (.int _ _))
theorem s_mkif {t:TypeId} {X:Operand} {x:Opd} (ho:o.op = .makeInterface t X) (hrd:RdR G σ a rd) (h1:okOpd X x = true) (ht:concreteT P t = true) (hrel:Rel w0 G σ H D w)
  (hst:stepOp (.mkif t x) rd H id = some (v,H')):OpOut P o a w w0 G σ H' (fun o=>D o∨o = id) v:=by
 simp only [stepOp,Option.map_eq_some_iff] at hst
 obtain ⟨p,hp,e⟩:=hst
 cases e
 have e1:=hrd X x h1 _ hp
 unfold concreteT at ht
 cases hu:P.underlying t with
 | none=>simp [hu] at ht
 | some d =>
  refine out_same hrel (x:=.iface t (a.eval X)) ?_ (.ifc e1)
  cases d <;> simp [hu] at ht <;> simp [execOp,ho,Instr.makeInterface,run_underlying hu]
theorem s_mkfn {fn:Fn} {F C:Array Operand} {f c:List Opd} (ho:o.op = .makeFunc fn F C) (hrd:RdR G σ a rd) (h1:okOpds F.toList f = true) (h2:okOpds C.toList c = true) (hrel:Rel w0 G σ H D w)
  (hst:stepOp (.mkfn fn f c) rd H id = some (v,H')):OpOut P o a w w0 G σ H' (fun o=>D o∨o = id) v:=by
 simp only [stepOp,Option.map_eq_some_iff,Option.bind_eq_some_iff] at hst
 obtain ⟨p,hp,q,hq,e⟩:=hst
 cases e
 have e1:=rdL_vrl hrd h1 hp
 have e2:=rdL_vrl hrd h2 hq
 have:=VR.clo (fn:=fn) e1 e2
 refine out_same hrel (x:=.func fn (F.map a.eval) (C.map a.eval)) ?_ (by rw [← List.map_toArray,← List.map_toArray] at this;simpa using this)
 simp [execOp,ho,Instr.makeFunc]
theorem s_nilc {X:Operand} {x:Opd} (ho:o.op = .nilCheck X) (hrd:RdR G σ a rd) (h1:okOpd X x = true) (hrel:Rel w0 G σ H D w)
  (hst:stepOp (.nilc x) rd H id = some (v,H')):OpOut P o a w w0 G σ H' (fun o=>D o∨o = id) v:=by
 simp only [stepOp,Option.map_eq_some_iff,Option.bind_eq_some_iff] at hst
 obtain ⟨r,⟨p,hp,hr⟩,e⟩:=hst
 cases e
 have e1:=hrd X x h1 _ hp
 refine out_same hrel (x:=a.eval X) ?_ ?_
 ·unfold nilcV at hr
  split at hr <;> simp at hr
  ·cases hx:a.eval X <;> rw [hx] at e1 <;> cases e1 <;> rename_i h <;> cases h <;> simp [execOp,ho,hx]
  ·generalize hx:a.eval X = z at e1
   cases e1 with
   | ptr hs=>simp [execOp,ho,hx]
   | deep h=>cases h
  ·generalize hx:a.eval X = z at e1
   cases e1 with
   | clo=>simp [execOp,ho,hx]
   | deep h=>cases h;simp [execOp,ho,hx]
  ·generalize hx:a.eval X = z at e1
   cases e1 with
   | ifc=>simp [execOp,ho,hx]
   | deep h=>cases h;simp [execOp,ho,hx]
 ·unfold nilcV at hr
  split at hr <;> simp at hr <;> subst hr <;> exact e1
end
end Go.Dp
