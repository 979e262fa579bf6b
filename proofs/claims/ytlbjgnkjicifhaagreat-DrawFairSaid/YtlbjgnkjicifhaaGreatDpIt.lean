import Derived.Test.YtlbjgnkjicifhaaGreatDpW
namespace Go.Dp
open Go.RowKit
set_option linter.unusedSimpArgs false
set_option linter.unusedVariables false
attribute [go_sem] argE stepOp rdE rdL rdParts rdO look putE keepE apartV appzV keyEq findV mapOf lkpV mputV V.obj V.cellsOf vint? asB asT asI64 cvtV unV nilcV mn2 mx2 foldV fold1 loadV faddrV fldV lenV asS V.undef V.isNilLit resV rv1 rvs mapS mapO thaw opn opnL opn0 V.slike V.atom eqsV eqIs
attribute [go_sem] Option.map_some Option.map_none Option.bind_some Option.bind_none Option.some.injEq Prod.mk.injEq
attribute [go_sem] List.getElem?_cons_zero List.getElem?_cons_succ List.getElem?_nil List.length_cons List.length_nil List.cons_append List.nil_append List.append_nil List.length_map List.length_append List.isEmpty_nil List.isEmpty_cons
attribute [go_sem] Int.toNat_natCast Nat.mul_one Nat.one_mul Nat.add_zero Nat.zero_add Nat.zero_mul Nat.mul_zero Nat.sub_zero Bool.not_true Bool.not_false bne_self_eq_false Bool.bne_false Bool.bne_true beq_self_eq_true Bool.and_true Bool.true_and Bool.and_false Bool.false_and
attribute [go_sem] cpyV storeV slV slBounds finL Hp.del zerosV
attribute [go_sem] List.getElem_cons_zero List.getElem_cons_succ List.getElem_map List.take_length List.take_of_length_le List.length_replicate Nat.zero_le List.headD_cons List.tail_cons List.headD_nil List.tail_nil
section
variable {H:Hp} {cells:List V} {len n m sz off o o' ver:Nat} {k:IntKind} {z:Int} {ob ob':Ob}
def fillO (cs:List V) (off size:Nat) (rest:List (Nat × Nat × V)):Option (List V)→Option (List V)
 | some vc=>if vc.length = size∧off+size≤cs.length then fillV (cs.take off++vc++cs.drop (off+size)) rest else none
 | none=>none
@[go_sem] theorem fillV_nil {cs:List V}:fillV cs [] = some cs:=rfl
@[go_sem] theorem fillV_cons {cs:List V} {off size:Nat} {v:V} {rest:List (Nat × Nat × V)}:fillV cs ((off,size,v)::rest) = fillO cs off size rest v.cellsOf:=by
 simp only [fillV,fillO];cases v.cellsOf <;> rfl
@[go_sem] theorem fillO_n {cs:List V} {off size:Nat} {vc:List V} {rest:List (Nat × Nat × V)} (h:vc.length = size∧off+size≤cs.length):fillO cs off size rest (some vc) = fillV (cs.take off++vc++cs.drop (off+size)) rest:=if_pos h
attribute [go_sem] List.set_cons_zero List.set_cons_succ List.take_succ_cons List.take_zero List.take_nil List.drop_succ_cons List.drop_zero List.drop_nil
@[go_sem] theorem iaddr_sl (h:0≤z∧z < (len:Int)):iaddrV none sz (.sl cells len) (.int k z) = some (.fp cells (z.toNat * sz)):=by simp [iaddrV,vint?,h]
@[go_sem] theorem iaddr_ref (h:0≤z∧z < (len:Int)):iaddrV none sz (.ref o ver off len) (.int k z) = some (.ptr o ver (off+z.toNat * sz)):=by simp [iaddrV,vint?,h]
@[go_sem] theorem iaddr_afp (h:0≤z∧z < (m:Int)):iaddrV (some m) sz (.fp cells off) (.int k z) = some (.fp cells (off+z.toNat * sz)):=by simp [iaddrV,vint?,h]
@[go_sem] theorem iaddr_aptr (h:0≤z∧z < (m:Int)):iaddrV (some m) sz (.ptr o ver off) (.int k z) = some (.ptr o ver (off+z.toNat * sz)):=by simp [iaddrV,vint?,h]
@[go_sem] theorem put_same:(H.put o ob) o = some ob:=by simp [Hp.put]
@[go_sem] theorem put_ne (h:o'≠o):(H.put o ob) o' = H o':=by simp [Hp.put,h]
@[go_sem] theorem put_put:(H.put o ob).put o ob' = H.put o ob':=by funext i;simp only [Hp.put];split <;> rfl
def elemsO (ver off len sz:Nat):Option Ob→Option (List V × Nat)
 | some ob=>if ob.ver = ver∧off+len * sz≤ob.cells.length then some ((ob.cells.drop off).take (len * sz),len) else none
 | none=>none
@[go_sem] theorem elems_sl (h:len * sz≤cells.length):elemsV sz H (.sl cells len) = some (cells.take (len * sz),len):=by simp only [elemsV,if_pos h]
@[go_sem] theorem elems_nils:elemsV sz H .nils = some ([],0):=rfl
@[go_sem] theorem elems_ref:elemsV sz H (.ref o ver off len) = elemsO ver off len sz (H o):=by simp only [elemsV,elemsO];cases H o <;> rfl
@[go_sem] theorem elemsO_some (h:ob.ver = ver∧off+len * sz≤ob.cells.length):elemsO ver off len sz (some ob) = some ((ob.cells.drop off).take (len * sz),len):=by simp only [elemsO,if_pos h]
def appO (sz bytes o ver len:Nat) (es:List V) (k:Nat) (H:Hp):Option Ob→Option (V × Hp)
 | some ob=>if ob.ver = ver∧ob.sz = sz∧ob.fz≤len * sz∧len * sz≤ob.cells.length∧(len+k) * bytes≤140737488355328∧len+k≤4611686018427387904∧ob.sp = 0 then some (.ref o (ver+1) 0 (len+k),H.put o { ob with cells:=ob.cells.take (len * sz)++es,ver:=ver+1,nl:=if k = 0 then ob.nl else 0 }) else none
 | none=>none
def appK (sz bytes:Nat) (H:Hp) (id:Nat) (s:V):Option (List V × Nat)→Option (V × Hp)
 | some (es,k)=>match s with
  | .nils=>if k * bytes≤140737488355328∧k≤4611686018427387904 then some (.ref id 0 0 k,H.put id { cells:=es,sz:=sz,nl:=if k = 0 then 1 else 0 }) else none
  | .ref o ver 0 len=>appO sz bytes o ver len es k H (H o)
  | _=>none
 | none=>none
@[go_sem] theorem appV_k {bytes id:Nat} {x:V}:appV sz bytes (.ref o ver 0 len) x H id = appK sz bytes H id (.ref o ver 0 len) (elemsV sz H x):=by
 simp only [appV,appK]
 cases elemsV sz H x with
 | none=>rfl
 | some p =>
  obtain ⟨es,k⟩:=p
  simp only [Option.bind_some,appO]
  cases H o with
  | none=>rfl
  | some ob=>simp only [true_and]
@[go_sem] theorem appV_n {bytes id:Nat} {x:V}:appV sz bytes .nils x H id = appK sz bytes H id .nils (elemsV sz H x):=by
 simp only [appV,appK]
 cases elemsV sz H x <;> rfl
@[go_sem] theorem appK_ref {bytes id k:Nat} {es:List V}:appK sz bytes H id (.ref o ver 0 len) (some (es,k)) = appO sz bytes o ver len es k H (H o):=rfl
@[go_sem] theorem appK_nils {bytes id k:Nat} {es:List V} (h:k * bytes≤140737488355328∧k≤4611686018427387904):appK sz bytes H id .nils (some (es,k)) = some (.ref id 0 0 k,H.put id { cells:=es,sz:=sz,nl:=if k = 0 then 1 else 0 }):=if_pos h
@[go_sem] theorem appO_some {bytes k:Nat} {es:List V} (h:ob.ver = ver∧ob.sz = sz∧ob.fz≤len * sz∧len * sz≤ob.cells.length∧(len+k) * bytes≤140737488355328∧len+k≤4611686018427387904∧ob.sp = 0):appO sz bytes o ver len es k H (some ob) = some (.ref o (ver+1) 0 (len+k),H.put o { ob with cells:=ob.cells.take (len * sz)++es,ver:=ver+1,nl:=if k = 0 then ob.nl else 0 }):=if_pos h
def Hp.put2 (H:Hp) (o:Nat) (ob:Ob):Hp:=H.put o ob
@[go_sem] theorem put2_eq:Hp.put2 H o ob = H.put o ob:=rfl
@[go_sem] theorem put_swap {ob2:Ob} (h:o < o'):(H.put o' ob2).put o ob = Hp.put2 (H.put o ob) o' ob2:=by
 funext i;simp only [Hp.put2,Hp.put];split <;> split <;> first | rfl | omega
@[go_sem] theorem cellsAt_fp:(V.fp cells off).cellsAt H = some (cells,off):=rfl
def cellsO (ver off:Nat):Option Ob→Option (List V × Nat)
 | some ob=>if ob.ver = ver then some (ob.cells,off) else none
 | none=>none
@[go_sem] theorem cellsAt_ptr:(V.ptr o ver off).cellsAt H = cellsO ver off (H o):=by simp only [V.cellsAt,cellsO];cases H o <;> rfl
@[go_sem] theorem cellsO_some (hv:ob.ver = ver):cellsO ver off (some ob) = some (ob.cells,off):=by simp [cellsO,hv]
@[go_sem] theorem get_in (h:n < cells.length):cells[n]? = some cells[n]:=by simp [h]
@[go_sem] theorem if_of {α:Type} {c:Prop} [Decidable c] {a b:α} (h:c):(if c then a else b) = a:=if_pos h
@[go_sem] theorem if_of_not {α:Type} {c:Prop} [Decidable c] {a b:α} (h:¬ c):(if c then a else b) = b:=if_neg h
theorem frz_atom {v:V} (h:v.atom = true):frz n v H = some (v,H):=by
 cases n with
 | zero=>simp [frz,h]
 | succ n=>cases v <;> simp [frz,V.atom] at h ⊢
attribute [go_sem] frz_atom
@[go_sem] theorem mapS_atoms (h:∀ v∈cells,v.atom = true):mapS (frz n) cells H = some (cells,H):=by
 induction cells with
 | nil=>rfl
 | cons v l ih =>
  simp only [mapS,frz_atom (h v (by simp)),Option.bind_some,ih fun u hu=>h u (by simp [hu]),Option.map_some]
@[go_sem] theorem mapS_map {α:Type} {A:List α} {f:α→V} (h:∀ a,(f a).atom = true):mapS (frz n) (A.map f) H = some (A.map f,H) :=
 mapS_atoms fun v hv=>by obtain ⟨a,_,rfl⟩:=List.mem_map.1 hv;exact h a
@[go_sem] theorem mapS_int1 {A:List Int}:mapS (frz n) (A.map (V.int k)) H = some (A.map (V.int k),H):=mapS_map fun _=>rfl
@[go_sem] theorem frz_int:frz n (.int k z) H = some (.int k z,H):=frz_atom rfl
@[go_sem] theorem frz_bool {b:Bool}:frz n (.bool b) H = some (.bool b,H):=frz_atom rfl
@[go_sem] theorem frz_sl:frz n (.sl cells len) H = some (.sl cells len,H):=frz_atom rfl
@[go_sem] theorem frz_fp:frz n (.fp cells off) H = some (.fp cells off,H):=frz_atom rfl
@[go_sem] theorem frz_nils:frz n .nils H = some (.nils,H):=frz_atom rfl
@[go_sem] theorem frz_agg {l:List V}:frz (n+1) (.agg l) H = (mapS (frz n) l H).map fun r=>(.agg r.1,r.2):=rfl
@[go_sem] theorem frz_tup {l:List V}:frz (n+1) (.tup l) H = (mapS (frz n) l H).map fun r=>(.tup r.1,r.2):=rfl
@[go_sem] theorem frz_ifc {t:TypeId} {v:V}:frz (n+1) (.ifc t v) H = (frz n v H).map fun r=>(.ifc t r.1,r.2):=rfl
@[go_sem] theorem frz_clo {fn:Fn} {f c:List V}:frz (n+1) (.clo fn f c) H = (mapS (frz n) f H).bind fun r=>(mapS (frz n) c r.2).map fun q=>(.clo fn r.1 q.1,q.2):=rfl
def frzRef (n o ver off len:Nat) (H:Hp):Option Ob→Option (V × Hp)
 | some ob=>if ob.ver = ver∧off+len * ob.sz≤ob.cells.length∧ob.sp = 0 then (mapS (frz n) ((ob.cells.drop off).take (len * ob.sz)) H).map fun r=>(.sl r.1 len,r.2.mark o (off+len * ob.sz)) else none
 | none=>none
@[go_sem] theorem frz_ref:frz (n+1) (.ref o ver off len) H = frzRef n o ver off len H (H o):=by
 simp only [frz,frzRef];cases H o <;> rfl
@[go_sem] theorem frzRef_some (h:ob.ver = ver∧off+len * ob.sz≤ob.cells.length∧ob.sp = 0):frzRef n o ver off len H (some ob) = (mapS (frz n) ((ob.cells.drop off).take (len * ob.sz)) H).map fun r=>(.sl r.1 len,r.2.mark o (off+len * ob.sz)):=by
 simp only [frzRef,if_pos h]
def frzPtr (n o ver off:Nat) (H:Hp):Option Ob→Option (V × Hp)
 | some ob=>if ob.ver = ver∧ob.sp = 0 then (mapS (frz n) ob.cells H).map fun r=>(.fp r.1 off,r.2.mark o ob.cells.length) else none
 | none=>none
@[go_sem] theorem frz_ptr:frz (n+1) (.ptr o ver off) H = frzPtr n o ver off H (H o):=by
 simp only [frz,frzPtr];cases H o <;> rfl
@[go_sem] theorem frzPtr_some (h:ob.ver = ver∧ob.sp = 0):frzPtr n o ver off H (some ob) = (mapS (frz n) ob.cells H).map fun r=>(.fp r.1 off,r.2.mark o ob.cells.length):=by
 simp only [frzPtr,if_pos h]
@[go_sem] theorem mark_put {a:Nat}:(H.put o ob).mark o a = H.put o { ob with fz:=max ob.fz a }:=by
 simp only [Hp.mark,put_same,put_put]
@[go_sem] theorem mark_ne {a:Nat} (h:o'≠o):(H.put o ob).mark o' a = (H.mark o' a).put o ob:=by
 have:(H.put o ob) o' = H o':=put_ne h
 unfold Hp.mark
 rw [this]
 split
 ·funext i;simp only [Hp.put];split <;> split <;> simp_all
 ·rfl
@[go_sem] theorem fin_x {v:V}:fin n .x v H = frz n v H:=by cases n <;> rfl
@[go_sem] theorem fin_snil:fin (n+1) (.s sz) .nils H = some (.own [] 0 sz,H):=rfl
def finRefO (n sz o ver off len:Nat) (H:Hp):Option Ob→Option (V × Hp)
 | some ob=>if ob.ver = ver∧ob.sz = sz∧off = 0∧ob.fz = 0∧len * sz≤ob.cells.length∧ob.sp = 0 then (mapS (frz n) (ob.cells.take (len * sz)) H).bind fun r=>finRef o len sz r.1 r.2 else frz (n+1) (.ref o ver off len) H
 | none=>none
@[go_sem] theorem fin_sref:fin (n+1) (.s sz) (.ref o ver off len) H = finRefO n sz o ver off len H (H o):=by
 simp only [fin,finRefO];cases H o <;> rfl
@[go_sem] theorem finRefO_some (h:ob.ver = ver∧ob.sz = sz∧off = 0∧ob.fz = 0∧len * sz≤ob.cells.length∧ob.sp = 0):finRefO n sz o ver off len H (some ob) = (mapS (frz n) (ob.cells.take (len * sz)) H).bind fun r=>finRef o len sz r.1 r.2:=by
 simp only [finRefO,if_pos h]
@[go_sem] theorem finRef_put {cs:List V} (h:ob.fz = 0):finRef o len sz cs (H.put o ob) = some (.own cs len sz,(H.put o ob).del o):=by
 simp only [finRef,put_same,h,if_true]
@[go_sem] theorem finRef_ne {cs:List V} (h:o'≠o):finRef o' len sz cs (H.put o ob) = (finRef o' len sz cs H).map fun r=>(r.1,(H.put o ob).del o'):=by
 simp only [finRef,put_ne h];split
 ·split <;> rfl
 ·rfl
@[go_sem] theorem fin_lagg {shs:List Sh} {cs:List V}:fin (n+1) (.l shs) (.agg cs) H = (finL (fin n) shs cs H).map fun r=>(.agg r.1,r.2):=rfl
@[go_sem] theorem fin_ltup {shs:List Sh} {cs:List V}:fin (n+1) (.l shs) (.tup cs) H = (finL (fin n) shs cs H).map fun r=>(.tup r.1,r.2):=rfl
@[go_sem] theorem eNil_nilp:V.isNil H 0 .nilp = some true:=rfl
@[go_sem] theorem eNil_nils:V.isNil H 1 .nils = some true:=rfl
@[go_sem] theorem eNil_nilm:V.isNil H 2 .nilm = some true:=rfl
@[go_sem] theorem eNil_nilf:V.isNil H 3 .nilf = some true:=rfl
@[go_sem] theorem eNil_nili:V.isNil H 4 .nili = some true:=rfl
@[go_sem] theorem eNil_fp {cs:List V}:V.isNil H 0 (.fp cs off) = some false:=rfl
@[go_sem] theorem eNil_ptr:V.isNil H 0 (.ptr o ver off) = some false:=rfl
@[go_sem] theorem eNil_clo {fn:Fn} {a b:List V}:V.isNil H 3 (.clo fn a b) = some false:=rfl
@[go_sem] theorem eNil_ifc {t:TypeId} {v:V}:V.isNil H 4 (.ifc t v) = some false:=rfl
@[go_sem] theorem eNil_mp:V.isNil H 2 (.mp o) = some false:=rfl
@[go_sem] theorem eNil_sl (h:0 < cells.length):V.isNil H 1 (.sl cells n) = some false:=by
 cases cells with
 | nil=>simp at h
 | cons a l=>rfl
@[go_sem] theorem dec_t {p:Prop} {h:Decidable p} (hp:p):@decide p h = true:=decide_eq_true hp
@[go_sem] theorem dec_f {p:Prop} {h:Decidable p} (hp:¬ p):@decide p h = false:=decide_eq_false hp
@[go_sem] theorem rep12 {v:V}:List.replicate 12 v = [v,v,v,v,v,v,v,v,v,v,v,v]:=rfl
@[go_sem] theorem mod64 {a:Int} (h:0≤a∧a < 18446744073709551616):a % 18446744073709551616 = a:=Int.emod_eq_of_lt h.1 h.2
theorem wrap_i64 {z:Int} (h:-9223372036854775808≤z∧z < 9223372036854775808):IntKind.wrap .i64 z = z:=by
 obtain ⟨h1,h2⟩:=h
 simp only [IntKind.wrap,IntKind.bits,IntKind.signed,Bool.true_and]
 split
 ·rename_i hc;simp at hc;omega
 ·rename_i hc;simp at hc;omega
attribute [go_sem] wrap_i64
@[go_sem] theorem wrap_u64 {z:Int}:IntKind.wrap .u64 z = z % 18446744073709551616:=by
 simp [IntKind.wrap,IntKind.bits,IntKind.signed]
@[go_sem] theorem v_add {a b:Int}:vbin .add (.int k a) (.int k b) = some (.int k (k.wrap (a+b))):=by simp [vbin,vint]
@[go_sem] theorem v_sub {a b:Int}:vbin .sub (.int k a) (.int k b) = some (.int k (k.wrap (a - b))):=by simp [vbin,vint]
@[go_sem] theorem v_mul {a b:Int}:vbin .mul (.int k a) (.int k b) = some (.int k (k.wrap (a * b))):=by simp [vbin,vint]
@[go_sem] theorem v_eql {a b:Int}:vbin .eql (.int k a) (.int k b) = some (.bool (decide (a = b))):=by
 simp only [vbin,vint];simp [BEq.beq]
@[go_sem] theorem v_neq {a b:Int}:vbin .neq (.int k a) (.int k b) = some (.bool (decide (a≠b))):=by
 simp only [vbin,vint];simp [bne,BEq.beq]
@[go_sem] theorem v_lss {a b:Int}:vbin .lss (.int k a) (.int k b) = some (.bool (decide (a < b))):=by simp [vbin,vint]
@[go_sem] theorem v_leq {a b:Int}:vbin .leq (.int k a) (.int k b) = some (.bool (decide (a≤b))):=by simp [vbin,vint]
@[go_sem] theorem v_gtr {a b:Int}:vbin .gtr (.int k a) (.int k b) = some (.bool (decide (b < a))):=by simp [vbin,vint]
@[go_sem] theorem v_geq {a b:Int}:vbin .geq (.int k a) (.int k b) = some (.bool (decide (b≤a))):=by simp [vbin,vint]
@[go_sem] theorem v_quo {a b:Int} (h:(0≤a∧a < 9223372036854775808)∧0 < b):vbin .quo (.int .i64 a) (.int .i64 b) = some (.int .i64 (a / b)):=by
 obtain ⟨⟨h1,h2⟩,h3⟩:=h
 have h4:a.tdiv b = a / b:=Int.tdiv_eq_ediv_of_nonneg h1
 have h5:0≤a / b:=Int.ediv_nonneg h1 (by omega)
 have h6:a / b≤a:=Int.ediv_le_self b h1
 have:b≠0:=by omega
 simp [vbin,vint,this,h4,wrap_i64 (z:=a / b) (by omega)]
@[go_sem] theorem v_rem {a b:Int} (h:0≤a∧0 < b):vbin .rem (.int k a) (.int k b) = some (.int k (a % b)):=by
 have:b≠0:=by omega
 simp [vbin,vint,this,Int.tmod_eq_emod_of_nonneg h.1]
end
section
variable {P:Program} {Y:Ys} {K:Ex→St→Prop} {st:St} {fr E:Env} {H H':Hp} {nx top:Nat} {l:List Opr} {Q:Env→Hp→Nat→Prop} {i fl:Nat} {d:Option Nat} {op:IOp} {v:V}
structure Ev {α:Type} (a b:α):Prop where
 out:a = b
theorem Ev.by {α : Type} {a b : α} (h : a = b := by
  (conv=>lhs;(try simp (disch:=(repeat' first | assumption | omega | rfl | refine And.intro ?_ ?_ | (intro _;with_unfolding_all rfl) | (simp only [List.length_map,List.length_append,List.length_cons,List.length_nil,List.length_take,List.length_drop,List.length_replicate,List.length_range] <;> omega) | decide)) only [go_sem,↓reduceIte,eq_self,ite_true,ite_false,Nat.reduceEqDiff,Nat.reduceAdd,Nat.reduceMul,Nat.reduceSub,Nat.reduceLT,Nat.reduceLeDiff,Nat.reduceBEq,Nat.reduceBneDiff,Int.reduceAdd,Int.reduceSub,Int.reduceMul,Int.reduceNeg,Int.reduceLT,Int.reduceLE,Int.reduceEq,Int.reduceToNat,decide_true,decide_false,and_true,true_and,and_false,false_and,or_true,true_or,or_false,false_or,not_true_eq_false,not_false_eq_true,Option.isNone_none,Option.isNone_some])) <;> with_reducible exact rfl):Ev a b:=⟨h⟩
theorem Ev.len {a b:Nat} (h:a = b:=by
  (conv=>lhs;(try simp only [List.length_cons,List.length_nil,Nat.reduceAdd,Nat.reduceMul,Nat.add_assoc,Nat.zero_add])) <;> with_reducible exact rfl):Ev a b:=⟨h⟩
end
@[go_sem] theorem take_map_ints {k:IntKind} {n:Nat} {l:List Int}:List.take n (List.map (V.int k) l) = List.map (V.int k) (List.take n l):=by rw [List.map_take]
@[go_sem] theorem drop_map_ints {k:IntKind} {n:Nat} {l:List Int}:List.drop n (List.map (V.int k) l) = List.map (V.int k) (List.drop n l):=by rw [List.map_drop]
structure Hid (q:Prop):Prop where
 out:q
theorem W.go {p q:Prop} (hq:q) (h:Hid q→p:=by
  intro hq
  repeat (first
   | with_reducible refine W.nil ?_
   | (with_reducible apply W.oprS;exact Ev.out Ev.by)
   | (with_reducible apply W.oprN;exact Ev.out Ev.by)
   | (with_reducible apply W.kreg;exact Ev.out Ev.by)
   | with_reducible refine W.seq ?_
   | with_reducible refine W.kseq ?_
   | (with_reducible apply W.reg;exact Ev.out Ev.len)
   | with_reducible refine W.skip ?_
   | with_reducible refine W.blk ?_
   | with_reducible refine W.exit ?_
   | with_reducible refine W.ret ?_
   | (with_reducible apply W.condT;exact Ev.out Ev.by)
   | (with_reducible apply W.condF;exact Ev.out Ev.by)
   | (with_reducible apply W.cT;exact Ev.out Ev.by;first | assumption | omega)
   | (with_reducible apply W.cF;exact Ev.out Ev.by;first | assumption | omega)
   | with_reducible refine W.kseqE ?_
   | with_reducible refine W.kseqR ?_
   | with_reducible refine W.kcutE ?_
   | with_reducible refine W.kcutR ?_
   | with_reducible refine W.kblk ?_
   | with_reducible refine W.kblkE ?_
   | with_reducible refine W.kblkR ?_
   | (with_reducible refine W.kblkN ?_ ?_;with_unfolding_all exact rfl)
   | with_reducible refine W.kloopE ?_
   | with_reducible refine W.kloopR ?_
   | (with_reducible apply W.guardT;exact Ev.out Ev.by)
   | (with_reducible apply W.guardF;exact Ev.out Ev.by;with_unfolding_all exact rfl)
   | (with_reducible apply W.guardU;exact Ev.out Ev.by)
   | (with_reducible apply W.gT;exact Ev.out Ev.by;first | assumption | omega)
   | (with_reducible apply W.gF;exact Ev.out Ev.by;first | assumption | omega)
   | (with_reducible apply W.gnT;exact Ev.out Ev.by;first | assumption | omega)
   | (with_reducible apply W.gnF;exact Ev.out Ev.by;first | assumption | omega)
   | (with_reducible apply W.call;exact Ev.out Ev.by)
   | (with_reducible apply W.callv;exact Ev.out Ev.by;exact Ev.out Ev.by)
   | (with_reducible apply W.cally;exact Ev.out Ev.by;exact Ev.out Ev.by)
   | (with_reducible apply W.eqa;exact Ev.out Ev.by;exact Ev.out Ev.by;exact Ev.out Ev.by)
   | (with_reducible apply W.inv;exact Ev.out Ev.by;exact Ev.out Ev.by;with_reducible assumption)
   | (with_reducible apply W.callm;exact Ev.out Ev.by;exact Ev.out Ev.by;with_reducible assumption)
   | (with_reducible apply W.retP;exact Ev.out Ev.by;exact Ev.out Ev.by)
   | (with_reducible apply W.retPn;exact Ev.out Ev.by;exact Ev.out Ev.by))
  exact hq.out):p:=h ⟨hq⟩
theorem W.cl {P:Program} {f:FuncId} {ds:List V} {e:V} {g q:Prop} (hp:PureC P f ds (fun r=>r = e)) (hq:q) (h:PureC P f ds (fun r=>r = e)→Hid q→g:=by
  intro hp hq
  first
   | (with_reducible apply W.pc0 hp;exact Ev.out Ev.by;exact Ev.out Ev.by)
   | (with_reducible apply W.pd0 hp;exact Ev.out Ev.by;exact Ev.out Ev.by)
   | (with_reducible apply W.pd1 hp;exact Ev.out Ev.by;exact Ev.out Ev.by;omega)
  exact hq.out):g:=h hp ⟨hq⟩
section
variable {P:Program} {Y:Ys}
def Opn (p:Prop):Prop:=p
theorem W.pc0x {f:FuncId} {vs ds:List V} {H H1:Hp} {id top fl:Nat} {e r:V} {K:V→Hp→Nat→Prop} (hm:mapS (frz 12) vs H = some (ds,H1)) (hp:PureC P f ds (fun r=>r = e)) (ht:thaw 4 e = some r) (h:K r H1 top):CallW P Y (fl+2) f vs H id top K:=W.pc0 hp hm ht h
theorem W.pd0x {f:FuncId} {vs ds:List V} {H H1:Hp} {id top:Nat} {e r:V} {K:V→Hp→Nat→Prop} (hm:mapS (frz 12) vs H = some (ds,H1)) (hp:PureC P f ds (fun r=>r = e)) (ht:thaw 4 e = some r) (h:K r H1 top):CallW P Y 0 f vs H id top K:=W.pd0 hp hm ht h
theorem W.pc1x {f:FuncId} {vs ds:List V} {H H1 H2:Hp} {id id' top fl:Nat} {e r:V} {K:V→Hp→Nat→Prop} (hm:mapS (frz 12) vs H = some (ds,H1)) (hp:Opn (PureC P f ds (fun r=>r = e))) (ht:opn 3 e top H1 = some (r,H2,id')) (h:K r H2 id'):CallW P Y (fl+2) f vs H id top K:=W.pc1 hp hm ht h
theorem W.pd1x {f:FuncId} {vs ds:List V} {H H1 H2:Hp} {id id' top:Nat} {e r:V} {K:V→Hp→Nat→Prop} (hm:mapS (frz 12) vs H = some (ds,H1)) (hp:Opn (PureC P f ds (fun r=>r = e))) (ht:opn 3 e id H1 = some (r,H2,id')) (hid:id'≤id+8) (h:K r H2 top):CallW P Y 1 f vs H id top K:=W.pd1 hp hm ht hid h
theorem W.pd1y {f:FuncId} {vs ds:List V} {H H1 H2:Hp} {id id' top:Nat} {e r:V} {K:V→Hp→Nat→Prop} (hm:mapS (frz 12) vs H = some (ds,H1)) (hp:PureC P f ds (fun r=>r = e)) (ht:opn 3 e id H1 = some (r,H2,id')) (hid:id'≤id+8) (h:K r H2 top):CallW P Y 1 f vs H id top K:=W.pd1 hp hm ht hid h
end
theorem W.run {p q:Prop} (hq:q) (h:Hid q→p:=by
  intro hq
  repeat (first
   | with_reducible refine W.nil ?_
   | (with_reducible apply W.oprS;exact Ev.out Ev.by)
   | (with_reducible apply W.oprN;exact Ev.out Ev.by)
   | (with_reducible apply W.kreg;exact Ev.out Ev.by)
   | with_reducible refine W.seq ?_
   | with_reducible refine W.kseq ?_
   | (with_reducible apply W.reg;exact Ev.out Ev.len)
   | with_reducible refine W.skip ?_
   | with_reducible refine W.blk ?_
   | with_reducible refine W.exit ?_
   | with_reducible refine W.ret ?_
   | (with_reducible apply W.condT;exact Ev.out Ev.by)
   | (with_reducible apply W.condF;exact Ev.out Ev.by)
   | (with_reducible apply W.cT;exact Ev.out Ev.by;first | assumption | omega)
   | (with_reducible apply W.cF;exact Ev.out Ev.by;first | assumption | omega)
   | with_reducible refine W.kseqE ?_
   | with_reducible refine W.kseqR ?_
   | with_reducible refine W.kcutE ?_
   | with_reducible refine W.kcutR ?_
   | with_reducible refine W.kblk ?_
   | with_reducible refine W.kblkE ?_
   | with_reducible refine W.kblkR ?_
   | (with_reducible refine W.kblkN ?_ ?_;with_unfolding_all exact rfl)
   | with_reducible refine W.kloopE ?_
   | with_reducible refine W.kloopR ?_
   | (with_reducible apply W.guardT;exact Ev.out Ev.by)
   | (with_reducible apply W.guardF;exact Ev.out Ev.by;with_unfolding_all exact rfl)
   | (with_reducible apply W.guardU;exact Ev.out Ev.by)
   | (with_reducible apply W.gT;exact Ev.out Ev.by;first | assumption | omega)
   | (with_reducible apply W.gF;exact Ev.out Ev.by;first | assumption | omega)
   | (with_reducible apply W.gnT;exact Ev.out Ev.by;first | assumption | omega)
   | (with_reducible apply W.gnF;exact Ev.out Ev.by;first | assumption | omega)
   | (with_reducible apply W.call;exact Ev.out Ev.by)
   | (with_reducible apply W.callv;exact Ev.out Ev.by;exact Ev.out Ev.by)
   | (with_reducible apply W.cally;exact Ev.out Ev.by;exact Ev.out Ev.by)
   | (with_reducible apply W.pcA;exact Ev.out Ev.by;with_reducible assumption;exact Ev.out Ev.by;with_unfolding_all exact rfl)
   | (with_reducible apply W.pc0x;exact Ev.out Ev.by;with_reducible assumption;exact Ev.out Ev.by)
   | (with_reducible apply W.pc1x;exact Ev.out Ev.by;with_reducible assumption;exact Ev.out Ev.by)
   | (with_reducible apply W.pd0x;exact Ev.out Ev.by;with_reducible assumption;exact Ev.out Ev.by)
   | (with_reducible apply W.pd1y;exact Ev.out Ev.by;with_reducible assumption;exact Ev.out Ev.by;omega)
   | (with_reducible apply W.pd1x;exact Ev.out Ev.by;with_reducible assumption;exact Ev.out Ev.by;omega)
   | (with_reducible apply W.eqa;exact Ev.out Ev.by;exact Ev.out Ev.by;exact Ev.out Ev.by)
   | (with_reducible apply W.inv;exact Ev.out Ev.by;exact Ev.out Ev.by;with_reducible assumption)
   | (with_reducible apply W.callm;exact Ev.out Ev.by;exact Ev.out Ev.by;with_reducible assumption)
   | (with_reducible apply W.retP;exact Ev.out Ev.by;exact Ev.out Ev.by)
   | (with_reducible apply W.retPn;exact Ev.out Ev.by;exact Ev.out Ev.by))
  exact hq.out):p:=h ⟨hq⟩
end Go.Dp
namespace Go.Dp
open Go.RowKit
set_option linter.unusedSimpArgs false
set_option linter.unusedVariables false
def Iter (P:Program) (f:FuncId) (first caps:List V) (items:List (List V)):Prop :=
 ∀ (Y:Ys) (o:Nat) (y:YH) (H:Hp) (top:Nat) (I:Nat→Hp→Nat→Prop) (D:Hp→Nat→Prop),YEx (Y.put o y) →
  (∀ i H t t',I i H t→t≤t'→I i H t')→(∀ H t t',D H t→t≤t'→D H t') →
  (∀ i vs H top,items[i]? = some vs→I i H top→y vs H top (fun v H' t=>∃ H1,HS H1 H'∧((v = .bool true∧I (i+1) H1 t)∨(v = .bool false∧D H1 t)))) →
  I 0 H top→RefC P (Y.put o y) f (first++[.yld o]++caps) H top (fun _ H' t=>I items.length H' t∨D H' t)∧∃ r H' t,(fun (_:V) H' t=>I items.length H' t∨D H' t) r H' t∧top≤t∧∀ j,j < top→H j = none→H' j = none
theorem YEx.none:YEx Ys.none:=fun _ _ e=>by cases e
theorem iter_of_wp {P:Program} {f:FuncId} {np:Nat} {c:C} {rs:List RV} {first caps:List V} {items:List (List V)} (hm:P.follows .mixedOrders = true) (hok:okF P f np c rs = true) (hl:first.length+1+caps.length = np)
  (h:∀ (Y:Ys) (o:Nat) (y:YH) (H:Hp) (top:Nat) (I:Nat→Hp→Nat→Prop) (D:Hp→Nat→Prop),(∀ i H t t',I i H t→t≤t'→I i H t')→(∀ H t t',D H t→t≤t'→D H t') →
   (∀ i vs H top,items[i]? = some vs→I i H top→y vs H top (fun v H' t=>∃ H1,HS H1 H'∧((v = .bool true∧I (i+1) H1 t)∨(v = .bool false∧D H1 t)))) →
   I 0 H top→wp P (Y.put o y) c (retR rs (fun _ H' t=>I items.length H' t∨D H' t)) ⟨argE 0 (first++[.yld o]++caps),H,top⟩):Iter P f first caps items:=by
 intro Y o y H top I D hY h1 h2 h3 h4
 have hw:=h Y o y H top I D h1 h2 h3 h4
 refine ⟨refC_of_wp hm hok (by simp;omega) hw,?_⟩
 obtain ⟨e,s,hk,hd⟩:=wp_ex hY (wp_dom (b:=⟨argE 0 (first++[.yld o]++caps),H,top⟩) ⟨Nat.le_refl _,fun _ _ h=>h⟩ hw)
 cases e with
 | ex _=>exact hk.elim
 | nm =>
  unfold retR at hk
  simp only at hk
  split at hk
  ·obtain ⟨H',hH',hk⟩:=hk
   refine ⟨.nilp,H',s.nx,hk,hd.1,fun j hj hn=>?_⟩
   cases e:H' j with
   | none=>rfl
   | some ob=>have:=hH' j ob e;rw [hd.2 j hj hn] at this;cases this
  ·exact hk.elim
 | rt =>
  unfold retR at hk
  simp only at hk
  split at hk
  ·obtain ⟨H',hH',hk⟩:=hk
   refine ⟨.nilp,H',s.nx,hk,hd.1,fun j hj hn=>?_⟩
   cases e:H' j with
   | none=>rfl
   | some ob=>have:=hH' j ob e;rw [hd.2 j hj hn] at this;cases this
  ·exact hk.elim
theorem Ys.put_same (Y:Ys) (o:Nat) (y:YH):Y.put o y o = some y:=by simp [Ys.put]
section
variable {P:Program} {Y:Ys} {K:Ex→St→Prop} {fr E:Env} {H:Hp} {nx:Nat}
theorem W.yl2 {o:Nat} {vs:List V} {H:Hp} {id top fl:Nat} {y:YH} {K K0:V→Hp→Nat→Prop} (hy:Y o = some y) (h:y vs H top K0) (hk:∀ v H' t,K0 v H' t→top≤t→K v H' t):CallT P Y (fl+2) (.yl o) vs H id top K :=
 ⟨by omega,y,K0,hy,fun v H' t h1 h2 _=>hk v H' t h1 h2,h⟩
theorem W.kl0 {keep:List Nat} {I:St→Prop} {μ:St→Nat} {m:Nat} (H':Hp) (hH:HS H' H) (hI:I ⟨keepE E keep,H',nx⟩) (hm:μ ⟨keepE E keep,H',nx⟩ < m):kLoop keep I μ m K .nm ⟨E,H,nx⟩:=⟨H',hH,hI,hm⟩
def kItr {α:Type} (o:Nat) (E:Env) (K:Ex→St→Prop) (gg:α→Hp) (J:α→Prop):Ex→St→Prop
 | .nm,st=>∃ x,HS ((gg x).put o (recO 1)) st.H∧J x∧o < st.nx
 | .rt,st=>∃ H1,HS (H1.put o (recO 1)) st.H∧H1 o = none∧∀ n,st.nx≤n→K .rt ⟨E,H1,n⟩
 | .ex id,st=>∃ H1,HS (H1.put o (recO 1)) st.H∧H1 o = none∧∀ n,st.nx≤n→K (.ex id) ⟨E,H1,n⟩
theorem W.kasg {o:Nat} {k:St→Prop} {H0:Hp} {n:Nat} (h:k ⟨E,H0.put o (recO 1),n⟩):kAsg o k .nm ⟨E,H0.put o (recO 0),n⟩:=by
 refine ⟨by simp [Hp.put],?_⟩
 have:(H0.put o (recO 0)).put o (recO 1) = H0.put o (recO 1):=by funext i;simp only [Hp.put];split <;> rfl
 show k ⟨E,(H0.put o (recO 0)).put o (recO 1),n⟩
 rw [this];exact h
theorem W.kitr {α:Type} {o n:Nat} {gg:α→Hp} {J:α→Prop} (x:α) (hH:HS ((gg x).put o (recO 1)) H) (hJ:J x) (hn:o < n):kItr o fr K gg J .nm ⟨E,H,n⟩:=⟨x,hH,hJ,hn⟩
theorem W.kitrR {α:Type} {o n:Nat} {gg:α→Hp} {J:α→Prop} (H1:Hp) (hH:HS (H1.put o (recO 1)) H) (h0:H1 o = none) (hk:∀ m,n≤m→K .rt ⟨fr,H1,m⟩):kItr o fr K gg J .rt ⟨E,H,n⟩:=⟨H1,hH,h0,hk⟩
theorem HS.reput {A B:Hp} {o:Nat} {a b:Ob} (h:HS (A.put o a) B):HS (A.put o b) (B.put o b):=fun i x e=>by
 simp only [Hp.put] at e ⊢
 split at e
 ·rename_i hc;rw [if_pos hc];exact e
 ·rename_i hc;rw [if_neg hc];exact h i x (by simp only [Hp.put];rw [if_neg hc];exact e)
theorem HS.at' {A B:Hp} {o:Nat} {a:Ob} (h:HS (A.put o a) B):B o = some a:=h o a (by simp [Hp.put])
theorem HS.trans {a b c:Hp} (h:HS a b) (k:HS b c):HS a c:=fun o x e=>k o x (h o x e)
theorem del_put {A:Hp} {o:Nat} {a:Ob} (h:A o = none):(A.put o a).del o = A:=by
 funext i;simp only [Hp.put,Hp.del]
 split
 ·rename_i hc;subst hc;exact h.symm
 ·rfl
theorem RefC.sub {f:FuncId} {vs:List V} {H H2:Hp} {top:Nat} {R:V→Hp→Nat→Prop} (h:RefC P Y f vs H top R) (hs:HS H H2):RefC P Y f vs H2 top R :=
 ⟨h.1,fun w0 w G σ D vals h1 h2 h3 h4=>(h.2 w0 w G σ D vals (h1.sub hs) h2 h3 h4).mono fun _ _ ⟨r,x,H',t',G',σ',e,a,b,c,d⟩=>⟨r,x,H',t',G',σ',e,a,b,fun j hj hn=>c j hj (by
  cases e2:H j with
  | none=>rfl
  | some ob=>have:=hs j ob e2;rw [hn] at this;cases this),d⟩⟩
theorem kRf0 {o t:Nat} (h:H o = some (recO 0)) (k:K .nm ⟨E,H.del o,t⟩):kRf o E K H t:=by
 unfold kRf;rw [h];exact ⟨⟨rfl,rfl⟩,k⟩
theorem kRf2 {o t:Nat} (h:H o = some (recO 2)) (k:K .rt ⟨E,H.del o,t⟩):kRf o E K H t:=by
 unfold kRf;rw [h];exact ⟨⟨rfl,rfl⟩,k⟩
theorem kRf3 {o t id:Nat} (h:H o = some (recO (id+3))) (k:K (.ex id) ⟨E,H.del o,t⟩):kRf o E K H t:=by
 unfold kRf;rw [h];exact ⟨⟨rfl,rfl⟩,k⟩
theorem W.rfi {g:Opd} {ps:List Nat} {asg body:C} {f:FuncId} {first caps:List V} {items:List (List V)} (hit:Iter P f first caps items) (hY:YEx Y) (hg:rdE fr g = some (.clo (.func f) first caps)) (hlen:∀ vs∈items,vs.length = ps.length)
  {α:Type} (gg:α→Hp) (Inv:Nat→α→Prop) (x0:α) (hH:HS (gg x0) H) (h0:Inv 0 x0) (hfree:∀ i x,Inv i x→gg x nx = none)
  (hround:∀ i vs x n,items[i]? = some vs→Inv i x→nx < n→wp P Y asg (kAsg nx (wp P Y body (kItr nx fr K gg (Inv (i+1))))) ⟨putL ps vs fr,(gg x).put nx (recO 0),n⟩)
  (hend:∀ x n,Inv items.length x→nx < n→K .nm ⟨fr,gg x,n⟩):wp P Y (.rf g ps asg body) K ⟨fr,H,nx⟩:=by
 simp only [wp,hg]
 let I:Nat→Hp→Nat→Prop:=fun i H t=>∃ x,H = (gg x).put nx (recO 0)∧Inv i x∧nx < t
 let D:Hp→Nat→Prop:=fun H t=>∃ H1,H1 nx = none∧((H = H1.put nx (recO 2)∧∀ n,t≤n→K .rt ⟨fr,H1,n⟩)∨∃ id,H = H1.put nx (recO (id+3))∧∀ n,t≤n→K (.ex id) ⟨fr,H1,n⟩)
 let y:YH:=fun vs H top Kc=>vs.length = ps.length∧wp P Y asg (kAsg nx (wp P Y body (kRound nx Kc))) ⟨putL ps vs fr,H,top⟩
 have hYy:YEx (Y.put nx y):=fun o z e vs H top Kc hz=>by
  by_cases ho:o = nx
  ·simp only [Ys.put,ho,if_true,Option.some.injEq] at e
   subst e
   exact hand_ex hY hz.2
  ·simp only [Ys.put,ho,if_false] at e
   exact hY o z e vs H top Kc hz
 obtain ⟨h1, h2⟩ := hit Y nx y ((gg x0).put nx (recO 0)) (nx + 1) I D hYy (fun i H t t' ⟨x, a, b, c⟩ h => ⟨x, a, b, by omega⟩)
  (fun H t t' ⟨H1,a,b⟩ h=>⟨H1,a,b.imp (fun ⟨c,d⟩=>⟨c,fun n hn=>d n (by omega)⟩) (fun ⟨id,c,d⟩=>⟨id,c,fun n hn=>d n (by omega)⟩)⟩)
  (fun i vs H top hi ⟨x,a,b,c⟩=>by
   subst a
   refine ⟨hlen vs (List.mem_of_getElem? hi),wp_mono (fun e s hk=>?_) (hround i vs x top hi b c)⟩
   cases e with
   | ex _=>exact hk.elim
   | rt=>exact hk.elim
   | nm =>
    obtain ⟨hk1,hk2⟩:=hk
    refine ⟨hk1,wp_mono (fun e s2 hk=>?_) hk2⟩
    cases e with
    | nm =>
     obtain ⟨x',hs',hJ,hn⟩:=hk
     exact ⟨hs'.at',(gg x').put nx (recO 0),hs'.reput,.inl ⟨rfl,x',rfl,hJ,hn⟩⟩
    | rt =>
     obtain ⟨H1,hs',hf,hk⟩:=hk
     exact ⟨hs'.at',H1.put nx (recO 2),hs'.reput,.inr ⟨rfl,H1,hf,.inl ⟨rfl,hk⟩⟩⟩
    | ex id =>
     obtain ⟨H1,hs',hf,hk⟩:=hk
     exact ⟨hs'.at',H1.put nx (recO (id+3)),hs'.reput,.inr ⟨rfl,H1,hf,.inr ⟨id,rfl,hk⟩⟩⟩) ⟨x0,rfl,h0,by omega⟩
 have hs:HS ((gg x0).put nx (recO 0)) (H.put nx (recO 0)):=HS.put rfl hH
 refine ⟨_,h1.sub hs,?_,fun r H' t hR ht hd=>?_⟩
 ·obtain ⟨r,H',t,a,b,c⟩:=h2
  refine ⟨r,H',t,a,b,fun j hj hn=>c j hj ?_⟩
  cases e2:((gg x0).put nx (recO 0)) j with
  | none=>rfl
  | some ob=>have:=hs j ob e2;rw [hn] at this;cases this
 ·rcases hR with ⟨x,rfl,hi,hlt⟩ | ⟨H1,hf,⟨rfl,hk⟩ | ⟨id,rfl,hk⟩⟩
  ·refine kRf0 (by simp [Hp.put]) ?_
   rw [del_put (hfree _ _ hi)];exact hend x t hi hlt
  ·refine kRf2 (by simp [Hp.put]) ?_
   rw [del_put hf];exact hk t (Nat.le_refl _)
  ·refine kRf3 (id := id) (by simp [Hp.put]) ?_
   rw [del_put hf];exact hk t (Nat.le_refl _)
end
end Go.Dp
