import Derived.Test.YtgbjppfikncpcaaGreatDpW
namespace Go.Dp
open Go.RowKit
set_option linter.unusedSimpArgs false
set_option linter.unusedVariables false
attribute [go_sem] argE stepOp rdE rdL rdParts rdO look putE keepE apartV appzV keyEq findV mapOf lkpV mputV V.obj V.cellsOf vint? asB asT asI64 cvtV unV nilcV mn2 mx2 foldV fold1 loadV faddrV fldV lenV asS V.undef V.isNilLit resV rv1 rvs mapS mapO thaw opn opnL opn0 V.slike V.atom eqsV eqIs
attribute [go_sem] Option.map_some Option.map_none Option.bind_some Option.bind_none Option.some.injEq Prod.mk.injEq
attribute [go_sem] List.getElem?_cons_zero List.getElem?_cons_succ List.getElem?_nil List.length_cons List.length_nil List.cons_append List.nil_append List.append_nil List.length_map List.length_append List.isEmpty_nil List.isEmpty_cons
attribute [go_sem] Int.toNat_natCast Nat.mul_one Nat.one_mul Nat.add_zero Nat.zero_add Nat.zero_mul Nat.mul_zero Nat.sub_zero Bool.not_true Bool.not_false bne_self_eq_false Bool.bne_false Bool.bne_true beq_self_eq_true Bool.and_true Bool.true_and Bool.and_false Bool.false_and
attribute [go_sem] cpyV storeV slV slBounds finL Hp.del zerosV
attribute [go_sem] List.getElem_cons_zero List.getElem_cons_succ List.getElem_map List.take_length List.take_of_length_le List.length_replicate Nat.zero_le List.headD_cons List.tail_cons List.headD_nil List.tail_nil
section
variable {H:Hp} {cells:List V} {len n m sz off o o' ver:Nat} {k:IntKind} {z:Int} {ob ob':Ob}
def fillO (cs:List V) (off size:Nat) (rest:List (Nat × Nat × V)):Option (List V)→Option (List V)
 | some vc=>if vc.length = size∧off+size≤cs.length then fillV (cs.take off++vc++cs.drop (off+size)) rest else none
 | none=>none
@[go_sem] theorem fillV_nil {cs:List V}:fillV cs [] = some cs:=rfl
@[go_sem] theorem fillV_cons {cs:List V} {off size:Nat} {v:V} {rest:List (Nat × Nat × V)}:fillV cs ((off,size,v)::rest) = fillO cs off size rest v.cellsOf:=by
 simp only [fillV,fillO];cases v.cellsOf <;> rfl
@[go_sem] theorem fillO_n {cs:List V} {off size:Nat} {vc:List V} {rest:List (Nat × Nat × V)} (h:vc.length = size∧off+size≤cs.length):fillO cs off size rest (some vc) = fillV (cs.take off++vc++cs.drop (off+size)) rest:=if_pos h
attribute [go_sem] List.set_cons_zero List.set_cons_succ List.take_succ_cons List.take_zero List.take_nil List.drop_succ_cons List.drop_zero List.drop_nil
@[go_sem] theorem iaddr_sl (h:0≤z∧z < (len:Int)):iaddrV none sz (.sl cells len) (.int k z) = some (.fp cells (z.toNat * sz)):=by simp [iaddrV,vint?,h]
@[go_sem] theorem iaddr_ref (h:0≤z∧z < (len:Int)):iaddrV none sz (.ref o ver off len) (.int k z) = some (.ptr o ver (off+z.toNat * sz)):=by simp [iaddrV,vint?,h]
@[go_sem] theorem iaddr_aptr (h:0≤z∧z < (m:Int)):iaddrV (some m) sz (.ptr o ver off) (.int k z) = some (.ptr o ver (off+z.toNat * sz)):=by simp [iaddrV,vint?,h]
@[go_sem] theorem put_same:(H.put o ob) o = some ob:=by simp [Hp.put]
@[go_sem] theorem put_ne (h:o'≠o):(H.put o ob) o' = H o':=by simp [Hp.put,h]
@[go_sem] theorem put_put:(H.put o ob).put o ob' = H.put o ob':=by funext i;simp only [Hp.put];split <;> rfl
def elemsO (ver off len sz:Nat):Option Ob→Option (List V × Nat)
 | some ob=>if ob.ver = ver∧off+len * sz≤ob.cells.length then some ((ob.cells.drop off).take (len * sz),len) else none
 | none=>none
@[go_sem] theorem elems_sl (h:len * sz≤cells.length):elemsV sz H (.sl cells len) = some (cells.take (len * sz),len):=by simp only [elemsV,if_pos h]
@[go_sem] theorem elems_nils:elemsV sz H .nils = some ([],0):=rfl
@[go_sem] theorem elems_ref:elemsV sz H (.ref o ver off len) = elemsO ver off len sz (H o):=by simp only [elemsV,elemsO];cases H o <;> rfl
@[go_sem] theorem elemsO_some (h:ob.ver = ver∧off+len * sz≤ob.cells.length):elemsO ver off len sz (some ob) = some ((ob.cells.drop off).take (len * sz),len):=by simp only [elemsO,if_pos h]
def appO (sz bytes o ver len:Nat) (es:List V) (k:Nat) (H:Hp):Option Ob→Option (V × Hp)
 | some ob=>if ob.ver = ver∧ob.sz = sz∧ob.fz≤len * sz∧len * sz≤ob.cells.length∧(len+k) * bytes≤140737488355328∧len+k≤4611686018427387904∧ob.sp = 0 then some (.ref o (ver+1) 0 (len+k),H.put o { ob with cells:=ob.cells.take (len * sz)++es,ver:=ver+1,nl:=if k = 0 then ob.nl else 0 }) else none
 | none=>none
def appK (sz bytes:Nat) (H:Hp) (id:Nat) (s:V):Option (List V × Nat)→Option (V × Hp)
 | some (es,k)=>match s with
  | .nils=>if k * bytes≤140737488355328∧k≤4611686018427387904 then some (.ref id 0 0 k,H.put id { cells:=es,sz:=sz,nl:=if k = 0 then 1 else 0 }) else none
  | .ref o ver 0 len=>appO sz bytes o ver len es k H (H o)
  | _=>none
 | none=>none
@[go_sem] theorem appV_k {bytes id:Nat} {x:V}:appV sz bytes (.ref o ver 0 len) x H id = appK sz bytes H id (.ref o ver 0 len) (elemsV sz H x):=by
 simp only [appV,appK]
 cases elemsV sz H x with
 | none=>rfl
 | some p =>
  obtain ⟨es,k⟩:=p
  simp only [Option.bind_some,appO]
  cases H o with
  | none=>rfl
  | some ob=>simp only [true_and]
@[go_sem] theorem appV_n {bytes id:Nat} {x:V}:appV sz bytes .nils x H id = appK sz bytes H id .nils (elemsV sz H x):=by
 simp only [appV,appK]
 cases elemsV sz H x <;> rfl
@[go_sem] theorem appK_ref {bytes id k:Nat} {es:List V}:appK sz bytes H id (.ref o ver 0 len) (some (es,k)) = appO sz bytes o ver len es k H (H o):=rfl
@[go_sem] theorem appK_nils {bytes id k:Nat} {es:List V} (h:k * bytes≤140737488355328∧k≤4611686018427387904):appK sz bytes H id .nils (some (es,k)) = some (.ref id 0 0 k,H.put id { cells:=es,sz:=sz,nl:=if k = 0 then 1 else 0 }):=if_pos h
@[go_sem] theorem appO_some {bytes k:Nat} {es:List V} (h:ob.ver = ver∧ob.sz = sz∧ob.fz≤len * sz∧len * sz≤ob.cells.length∧(len+k) * bytes≤140737488355328∧len+k≤4611686018427387904∧ob.sp = 0):appO sz bytes o ver len es k H (some ob) = some (.ref o (ver+1) 0 (len+k),H.put o { ob with cells:=ob.cells.take (len * sz)++es,ver:=ver+1,nl:=if k = 0 then ob.nl else 0 }):=if_pos h
def Hp.put2 (H:Hp) (o:Nat) (ob:Ob):Hp:=H.put o ob
@[go_sem] theorem put2_eq:Hp.put2 H o ob = H.put o ob:=rfl
@[go_sem] theorem put_swap {ob2:Ob} (h:o < o'):(H.put o' ob2).put o ob = Hp.put2 (H.put o ob) o' ob2:=by
 funext i;simp only [Hp.put2,Hp.put];split <;> split <;> first | rfl | omega
@[go_sem] theorem cellsAt_fp:(V.fp cells off).cellsAt H = some (cells,off):=rfl
def cellsO (ver off:Nat):Option Ob→Option (List V × Nat)
 | some ob=>if ob.ver = ver then some (ob.cells,off) else none
 | none=>none
@[go_sem] theorem cellsAt_ptr:(V.ptr o ver off).cellsAt H = cellsO ver off (H o):=by simp only [V.cellsAt,cellsO];cases H o <;> rfl
@[go_sem] theorem cellsO_some (hv:ob.ver = ver):cellsO ver off (some ob) = some (ob.cells,off):=by simp [cellsO,hv]
@[go_sem] theorem get_in (h:n < cells.length):cells[n]? = some cells[n]:=by simp [h]
@[go_sem] theorem if_of {α:Type} {c:Prop} [Decidable c] {a b:α} (h:c):(if c then a else b) = a:=if_pos h
@[go_sem] theorem if_of_not {α:Type} {c:Prop} [Decidable c] {a b:α} (h:¬ c):(if c then a else b) = b:=if_neg h
theorem frz_atom {v:V} (h:v.atom = true):frz n v H = some (v,H):=by
 cases n with
 | zero=>simp [frz,h]
 | succ n=>cases v <;> simp [frz,V.atom] at h ⊢
attribute [go_sem] frz_atom
@[go_sem] theorem mapS_atoms (h:∀ v∈cells,v.atom = true):mapS (frz n) cells H = some (cells,H):=by
 induction cells with
 | nil=>rfl
 | cons v l ih =>
  simp only [mapS,frz_atom (h v (by simp)),Option.bind_some,ih fun u hu=>h u (by simp [hu]),Option.map_some]
@[go_sem] theorem mapS_map {α:Type} {A:List α} {f:α→V} (h:∀ a,(f a).atom = true):mapS (frz n) (A.map f) H = some (A.map f,H) :=
 mapS_atoms fun v hv=>by obtain ⟨a,_,rfl⟩:=List.mem_map.1 hv;exact h a
@[go_sem] theorem mapS_int1 {A:List Int}:mapS (frz n) (A.map (V.int k)) H = some (A.map (V.int k),H):=mapS_map fun _=>rfl
@[go_sem] theorem mapS_sl2 {α:Type} {A:List α} {f:α→List V} {g:α→Nat}:mapS (frz n) (A.map fun a=>V.sl (f a) (g a)) H = some (A.map fun a=>V.sl (f a) (g a),H):=mapS_map fun _=>rfl
@[go_sem] theorem frz_int:frz n (.int k z) H = some (.int k z,H):=frz_atom rfl
@[go_sem] theorem frz_sl:frz n (.sl cells len) H = some (.sl cells len,H):=frz_atom rfl
@[go_sem] theorem frz_nils:frz n .nils H = some (.nils,H):=frz_atom rfl
@[go_sem] theorem frz_agg {l:List V}:frz (n+1) (.agg l) H = (mapS (frz n) l H).map fun r=>(.agg r.1,r.2):=rfl
@[go_sem] theorem frz_tup {l:List V}:frz (n+1) (.tup l) H = (mapS (frz n) l H).map fun r=>(.tup r.1,r.2):=rfl
@[go_sem] theorem frz_ifc {t:TypeId} {v:V}:frz (n+1) (.ifc t v) H = (frz n v H).map fun r=>(.ifc t r.1,r.2):=rfl
@[go_sem] theorem frz_clo {fn:Fn} {f c:List V}:frz (n+1) (.clo fn f c) H = (mapS (frz n) f H).bind fun r=>(mapS (frz n) c r.2).map fun q=>(.clo fn r.1 q.1,q.2):=rfl
def frzRef (n o ver off len:Nat) (H:Hp):Option Ob→Option (V × Hp)
 | some ob=>if ob.ver = ver∧off+len * ob.sz≤ob.cells.length∧ob.sp = 0 then (mapS (frz n) ((ob.cells.drop off).take (len * ob.sz)) H).map fun r=>(.sl r.1 len,r.2.mark o (off+len * ob.sz)) else none
 | none=>none
@[go_sem] theorem frz_ref:frz (n+1) (.ref o ver off len) H = frzRef n o ver off len H (H o):=by
 simp only [frz,frzRef];cases H o <;> rfl
@[go_sem] theorem frzRef_some (h:ob.ver = ver∧off+len * ob.sz≤ob.cells.length∧ob.sp = 0):frzRef n o ver off len H (some ob) = (mapS (frz n) ((ob.cells.drop off).take (len * ob.sz)) H).map fun r=>(.sl r.1 len,r.2.mark o (off+len * ob.sz)):=by
 simp only [frzRef,if_pos h]
@[go_sem] theorem mark_put {a:Nat}:(H.put o ob).mark o a = H.put o { ob with fz:=max ob.fz a }:=by
 simp only [Hp.mark,put_same,put_put]
@[go_sem] theorem fin_x {v:V}:fin n .x v H = frz n v H:=by cases n <;> rfl
@[go_sem] theorem fin_snil:fin (n+1) (.s sz) .nils H = some (.own [] 0 sz,H):=rfl
@[go_sem] theorem fin_lagg {shs:List Sh} {cs:List V}:fin (n+1) (.l shs) (.agg cs) H = (finL (fin n) shs cs H).map fun r=>(.agg r.1,r.2):=rfl
@[go_sem] theorem fin_ltup {shs:List Sh} {cs:List V}:fin (n+1) (.l shs) (.tup cs) H = (finL (fin n) shs cs H).map fun r=>(.tup r.1,r.2):=rfl
@[go_sem] theorem eNil_nilp:V.isNil H 0 .nilp = some true:=rfl
@[go_sem] theorem eNil_nils:V.isNil H 1 .nils = some true:=rfl
@[go_sem] theorem eNil_nilm:V.isNil H 2 .nilm = some true:=rfl
@[go_sem] theorem eNil_nilf:V.isNil H 3 .nilf = some true:=rfl
@[go_sem] theorem eNil_nili:V.isNil H 4 .nili = some true:=rfl
@[go_sem] theorem eNil_fp {cs:List V}:V.isNil H 0 (.fp cs off) = some false:=rfl
@[go_sem] theorem eNil_ptr:V.isNil H 0 (.ptr o ver off) = some false:=rfl
@[go_sem] theorem eNil_clo {fn:Fn} {a b:List V}:V.isNil H 3 (.clo fn a b) = some false:=rfl
@[go_sem] theorem eNil_ifc {t:TypeId} {v:V}:V.isNil H 4 (.ifc t v) = some false:=rfl
@[go_sem] theorem eNil_mp:V.isNil H 2 (.mp o) = some false:=rfl
@[go_sem] theorem dec_t {p:Prop} {h:Decidable p} (hp:p):@decide p h = true:=decide_eq_true hp
@[go_sem] theorem dec_f {p:Prop} {h:Decidable p} (hp:¬ p):@decide p h = false:=decide_eq_false hp
@[go_sem] theorem rep12 {v:V}:List.replicate 12 v = [v,v,v,v,v,v,v,v,v,v,v,v]:=rfl
@[go_sem] theorem mod64 {a:Int} (h:0≤a∧a < 18446744073709551616):a % 18446744073709551616 = a:=Int.emod_eq_of_lt h.1 h.2
theorem wrap_i64 {z:Int} (h:-9223372036854775808≤z∧z < 9223372036854775808):IntKind.wrap .i64 z = z:=by
 obtain ⟨h1,h2⟩:=h
 simp only [IntKind.wrap,IntKind.bits,IntKind.signed,Bool.true_and]
 split
 ·rename_i hc;simp at hc;omega
 ·rename_i hc;simp at hc;omega
attribute [go_sem] wrap_i64
@[go_sem] theorem wrap_u64 {z:Int}:IntKind.wrap .u64 z = z % 18446744073709551616:=by
 simp [IntKind.wrap,IntKind.bits,IntKind.signed]
@[go_sem] theorem v_add {a b:Int}:vbin .add (.int k a) (.int k b) = some (.int k (k.wrap (a+b))):=by simp [vbin,vint]
@[go_sem] theorem v_sub {a b:Int}:vbin .sub (.int k a) (.int k b) = some (.int k (k.wrap (a - b))):=by simp [vbin,vint]
@[go_sem] theorem v_mul {a b:Int}:vbin .mul (.int k a) (.int k b) = some (.int k (k.wrap (a * b))):=by simp [vbin,vint]
@[go_sem] theorem v_eql {a b:Int}:vbin .eql (.int k a) (.int k b) = some (.bool (decide (a = b))):=by
 simp only [vbin,vint];simp [BEq.beq]
@[go_sem] theorem v_neq {a b:Int}:vbin .neq (.int k a) (.int k b) = some (.bool (decide (a≠b))):=by
 simp only [vbin,vint];simp [bne,BEq.beq]
@[go_sem] theorem v_lss {a b:Int}:vbin .lss (.int k a) (.int k b) = some (.bool (decide (a < b))):=by simp [vbin,vint]
@[go_sem] theorem v_leq {a b:Int}:vbin .leq (.int k a) (.int k b) = some (.bool (decide (a≤b))):=by simp [vbin,vint]
@[go_sem] theorem v_gtr {a b:Int}:vbin .gtr (.int k a) (.int k b) = some (.bool (decide (b < a))):=by simp [vbin,vint]
@[go_sem] theorem v_geq {a b:Int}:vbin .geq (.int k a) (.int k b) = some (.bool (decide (b≤a))):=by simp [vbin,vint]
@[go_sem] theorem v_quo {a b:Int} (h:(0≤a∧a < 9223372036854775808)∧0 < b):vbin .quo (.int .i64 a) (.int .i64 b) = some (.int .i64 (a / b)):=by
 obtain ⟨⟨h1,h2⟩,h3⟩:=h
 have h4:a.tdiv b = a / b:=Int.tdiv_eq_ediv_of_nonneg h1
 have h5:0≤a / b:=Int.ediv_nonneg h1 (by omega)
 have h6:a / b≤a:=Int.ediv_le_self b h1
 have:b≠0:=by omega
 simp [vbin,vint,this,h4,wrap_i64 (z:=a / b) (by omega)]
@[go_sem] theorem v_rem {a b:Int} (h:0≤a∧0 < b):vbin .rem (.int k a) (.int k b) = some (.int k (a % b)):=by
 have:b≠0:=by omega
 simp [vbin,vint,this,Int.tmod_eq_emod_of_nonneg h.1]
end
section
variable {P:Program} {Y:Ys} {K:Ex→St→Prop} {st:St} {fr E:Env} {H H':Hp} {nx top:Nat} {l:List Opr} {Q:Env→Hp→Nat→Prop} {i fl:Nat} {d:Option Nat} {op:IOp} {v:V}
structure Ev {α:Type} (a b:α):Prop where
 out:a = b
theorem Ev.by {α : Type} {a b : α} (h : a = b := by
  (conv=>lhs;(try simp (disch:=(repeat' first | assumption | omega | rfl | refine And.intro ?_ ?_ | (intro _;with_unfolding_all rfl) | (simp only [List.length_map,List.length_append,List.length_cons,List.length_nil,List.length_take,List.length_drop,List.length_replicate,List.length_range] <;> omega) | decide)) only [go_sem,↓reduceIte,eq_self,ite_true,ite_false,Nat.reduceEqDiff,Nat.reduceAdd,Nat.reduceMul,Nat.reduceSub,Nat.reduceLT,Nat.reduceLeDiff,Nat.reduceBEq,Nat.reduceBneDiff,Int.reduceAdd,Int.reduceSub,Int.reduceMul,Int.reduceNeg,Int.reduceLT,Int.reduceLE,Int.reduceEq,Int.reduceToNat,decide_true,decide_false,and_true,true_and,and_false,false_and,or_true,true_or,or_false,false_or,not_true_eq_false,not_false_eq_true,Option.isNone_none,Option.isNone_some])) <;> with_reducible exact rfl):Ev a b:=⟨h⟩
theorem Ev.len {a b:Nat} (h:a = b:=by
  (conv=>lhs;(try simp only [List.length_cons,List.length_nil,Nat.reduceAdd,Nat.reduceMul,Nat.add_assoc,Nat.zero_add])) <;> with_reducible exact rfl):Ev a b:=⟨h⟩
end
@[go_sem] theorem take_map_ints {k:IntKind} {n:Nat} {l:List Int}:List.take n (List.map (V.int k) l) = List.map (V.int k) (List.take n l):=by rw [List.map_take]
@[go_sem] theorem drop_map_ints {k:IntKind} {n:Nat} {l:List Int}:List.drop n (List.map (V.int k) l) = List.map (V.int k) (List.drop n l):=by rw [List.map_drop]
structure Hid (q:Prop):Prop where
 out:q
section
variable {P:Program} {Y:Ys}
def Opn (p:Prop):Prop:=p
theorem W.pc0x {f:FuncId} {vs ds:List V} {H H1:Hp} {id top fl:Nat} {e r:V} {K:V→Hp→Nat→Prop} (hm:mapS (frz 12) vs H = some (ds,H1)) (hp:PureC P f ds (fun r=>r = e)) (ht:thaw 4 e = some r) (h:K r H1 top):CallW P Y (fl+2) f vs H id top K:=W.pc0 hp hm ht h
theorem W.pd0x {f:FuncId} {vs ds:List V} {H H1:Hp} {id top:Nat} {e r:V} {K:V→Hp→Nat→Prop} (hm:mapS (frz 12) vs H = some (ds,H1)) (hp:PureC P f ds (fun r=>r = e)) (ht:thaw 4 e = some r) (h:K r H1 top):CallW P Y 0 f vs H id top K:=W.pd0 hp hm ht h
theorem W.pc1x {f:FuncId} {vs ds:List V} {H H1 H2:Hp} {id id' top fl:Nat} {e r:V} {K:V→Hp→Nat→Prop} (hm:mapS (frz 12) vs H = some (ds,H1)) (hp:Opn (PureC P f ds (fun r=>r = e))) (ht:opn 3 e top H1 = some (r,H2,id')) (h:K r H2 id'):CallW P Y (fl+2) f vs H id top K:=W.pc1 hp hm ht h
theorem W.pd1x {f:FuncId} {vs ds:List V} {H H1 H2:Hp} {id id' top:Nat} {e r:V} {K:V→Hp→Nat→Prop} (hm:mapS (frz 12) vs H = some (ds,H1)) (hp:Opn (PureC P f ds (fun r=>r = e))) (ht:opn 3 e id H1 = some (r,H2,id')) (hid:id'≤id+8) (h:K r H2 top):CallW P Y 1 f vs H id top K:=W.pd1 hp hm ht hid h
theorem W.pd1y {f:FuncId} {vs ds:List V} {H H1 H2:Hp} {id id' top:Nat} {e r:V} {K:V→Hp→Nat→Prop} (hm:mapS (frz 12) vs H = some (ds,H1)) (hp:PureC P f ds (fun r=>r = e)) (ht:opn 3 e id H1 = some (r,H2,id')) (hid:id'≤id+8) (h:K r H2 top):CallW P Y 1 f vs H id top K:=W.pd1 hp hm ht hid h
end
theorem W.run {p q:Prop} (hq:q) (h:Hid q→p:=by
  intro hq
  repeat (first
   | with_reducible refine W.nil ?_
   | (with_reducible apply W.oprS;exact Ev.out Ev.by)
   | (with_reducible apply W.oprN;exact Ev.out Ev.by)
   | (with_reducible apply W.kreg;exact Ev.out Ev.by)
   | with_reducible refine W.seq ?_
   | with_reducible refine W.kseq ?_
   | (with_reducible apply W.reg;exact Ev.out Ev.len)
   | with_reducible refine W.skip ?_
   | with_reducible refine W.blk ?_
   | with_reducible refine W.exit ?_
   | with_reducible refine W.ret ?_
   | (with_reducible apply W.condT;exact Ev.out Ev.by)
   | (with_reducible apply W.condF;exact Ev.out Ev.by)
   | (with_reducible apply W.cT;exact Ev.out Ev.by;first | assumption | omega)
   | (with_reducible apply W.cF;exact Ev.out Ev.by;first | assumption | omega)
   | with_reducible refine W.kseqE ?_
   | with_reducible refine W.kseqR ?_
   | with_reducible refine W.kcutE ?_
   | with_reducible refine W.kcutR ?_
   | with_reducible refine W.kblk ?_
   | with_reducible refine W.kblkE ?_
   | with_reducible refine W.kblkR ?_
   | (with_reducible refine W.kblkN ?_ ?_;with_unfolding_all exact rfl)
   | with_reducible refine W.kloopE ?_
   | with_reducible refine W.kloopR ?_
   | (with_reducible apply W.guardT;exact Ev.out Ev.by)
   | (with_reducible apply W.guardF;exact Ev.out Ev.by;with_unfolding_all exact rfl)
   | (with_reducible apply W.guardU;exact Ev.out Ev.by)
   | (with_reducible apply W.gT;exact Ev.out Ev.by;first | assumption | omega)
   | (with_reducible apply W.gF;exact Ev.out Ev.by;first | assumption | omega)
   | (with_reducible apply W.gnT;exact Ev.out Ev.by;first | assumption | omega)
   | (with_reducible apply W.gnF;exact Ev.out Ev.by;first | assumption | omega)
   | (with_reducible apply W.call;exact Ev.out Ev.by)
   | (with_reducible apply W.callv;exact Ev.out Ev.by;exact Ev.out Ev.by)
   | (with_reducible apply W.cally;exact Ev.out Ev.by;exact Ev.out Ev.by)
   | (with_reducible apply W.pcA;exact Ev.out Ev.by;with_reducible assumption;exact Ev.out Ev.by;with_unfolding_all exact rfl)
   | (with_reducible apply W.pc0x;exact Ev.out Ev.by;with_reducible assumption;exact Ev.out Ev.by)
   | (with_reducible apply W.pc1x;exact Ev.out Ev.by;with_reducible assumption;exact Ev.out Ev.by)
   | (with_reducible apply W.pd0x;exact Ev.out Ev.by;with_reducible assumption;exact Ev.out Ev.by)
   | (with_reducible apply W.pd1y;exact Ev.out Ev.by;with_reducible assumption;exact Ev.out Ev.by;omega)
   | (with_reducible apply W.pd1x;exact Ev.out Ev.by;with_reducible assumption;exact Ev.out Ev.by;omega)
   | (with_reducible apply W.eqa;exact Ev.out Ev.by;exact Ev.out Ev.by;exact Ev.out Ev.by)
   | (with_reducible apply W.inv;exact Ev.out Ev.by;exact Ev.out Ev.by;with_reducible assumption)
   | (with_reducible apply W.callm;exact Ev.out Ev.by;exact Ev.out Ev.by;with_reducible assumption)
   | (with_reducible apply W.retP;exact Ev.out Ev.by;exact Ev.out Ev.by)
   | (with_reducible apply W.retPn;exact Ev.out Ev.by;exact Ev.out Ev.by))
  exact hq.out):p:=h ⟨hq⟩
end Go.Dp
namespace Go.Dp
open Go.RowKit
set_option linter.unusedSimpArgs false
set_option linter.unusedVariables false
theorem YEx.none:YEx Ys.none:=fun _ _ e=>by cases e
section
variable {P:Program} {Y:Ys} {K:Ex→St→Prop} {fr E:Env} {H:Hp} {nx:Nat}
theorem W.kl0 {keep:List Nat} {I:St→Prop} {μ:St→Nat} {m:Nat} (H':Hp) (hH:HS H' H) (hI:I ⟨keepE E keep,H',nx⟩) (hm:μ ⟨keepE E keep,H',nx⟩ < m):kLoop keep I μ m K .nm ⟨E,H,nx⟩:=⟨H',hH,hI,hm⟩
def kItr {α:Type} (o:Nat) (E:Env) (K:Ex→St→Prop) (gg:α→Hp) (J:α→Prop):Ex→St→Prop
 | .nm,st=>∃ x,HS ((gg x).put o (recO 1)) st.H∧J x∧o < st.nx
 | .rt,st=>∃ H1,HS (H1.put o (recO 1)) st.H∧H1 o = none∧∀ n,st.nx≤n→K .rt ⟨E,H1,n⟩
 | .ex id,st=>∃ H1,HS (H1.put o (recO 1)) st.H∧H1 o = none∧∀ n,st.nx≤n→K (.ex id) ⟨E,H1,n⟩
theorem HS.trans {a b c:Hp} (h:HS a b) (k:HS b c):HS a c:=fun o x e=>k o x (h o x e)
theorem RefC.sub {f:FuncId} {vs:List V} {H H2:Hp} {top:Nat} {R:V→Hp→Nat→Prop} (h:RefC P Y f vs H top R) (hs:HS H H2):RefC P Y f vs H2 top R :=
 ⟨h.1,fun w0 w G σ D vals h1 h2 h3 h4=>(h.2 w0 w G σ D vals (h1.sub hs) h2 h3 h4).mono fun _ _ ⟨r,x,H',t',G',σ',e,a,b,c,d⟩=>⟨r,x,H',t',G',σ',e,a,b,fun j hj hn=>c j hj (by
  cases e2:H j with
  | none=>rfl
  | some ob=>have:=hs j ob e2;rw [hn] at this;cases this),d⟩⟩
end
end Go.Dp
namespace Go.Dp
open Go.RowKit
set_option linter.unusedSimpArgs false
set_option linter.unusedVariables false
def VW (v v':V):Prop:=∀ (G:Gm) (x:Value),DR G v x→DR G v' x
def VWL (l l':List V):Prop:=∀ (G:Gm) (xs:List Value),DRL G l xs→DRL G l' xs
theorem VW.refl (v:V):VW v v:=fun _ _ h=>h
theorem VWL.refl (l:List V):VWL l l:=fun _ _ h=>h
theorem VWL.nil:VWL [] []:=fun _ _ h=>h
theorem VWL.cons {v v':V} {l l':List V} (h:VW v v') (t:VWL l l'):VWL (v::l) (v'::l'):=fun G xs hd=>by
 cases hd with | cons a b=>exact .cons (h G _ a) (t G _ b)
theorem VW.nils:VW .nils (.sl [] 0):=fun G x h=>by cases h;exact .sl0 none 0
theorem VW.agg {l l':List V} (h:VWL l l'):VW (.agg l) (.agg l'):=fun G x hd=>by
 cases hd with | agg a b=>exact .agg (h G _ a) b
theorem VW.tup {l l':List V} (h:VWL l l'):VW (.tup l) (.tup l'):=fun G x hd=>by
 cases hd with | tup a=>exact .tup (h G _ a)
theorem VW.sl {l l':List V} {n:Nat} (h:VWL l l'):VW (.sl l n) (.sl l' n):=fun G x hd=>by
 cases hd with
 | sl0 a c =>
  have:=h G [] .nil
  cases this;exact .sl0 a c
 | sl a b c d=>exact .sl (h G _ a) b c d
theorem VW.fp {l l':List V} {n:Nat} (h:VWL l l'):VW (.fp l n) (.fp l' n):=fun G x hd=>by
 cases hd with | fp a b c=>exact .fp (h G _ a) b c
theorem VW.clo {fn:Fn} {f f' c c':List V} (h:VWL f f') (k:VWL c c'):VW (.clo fn f c) (.clo fn f' c'):=fun G x hd=>by
 cases hd with | clo a b=>exact .clo (h G _ a) (k G _ b)
theorem VWL.append {l l' m m':List V} (h:VWL l l') (k:VWL m m') (hl:l.length = l'.length):VWL (l++m) (l'++m'):=fun G xs hd=>by
 have e:∀ {l m:List V} {xs:List Value},DRL G (l++m) xs→∃ x1 x2,xs = x1++x2∧DRL G l x1∧DRL G m x2:=by
  intro l
  induction l with
  | nil=>intro m xs h;exact ⟨[],xs,rfl,.nil,h⟩
  | cons v l ih =>
   intro m xs h
   cases h with
   | cons a b =>
    obtain ⟨x1,x2,e,h1,h2⟩:=ih b
    exact ⟨_::x1,x2,by rw [e];rfl,.cons a h1,h2⟩
 obtain ⟨x1,x2,rfl,h1,h2⟩:=e hd
 exact (h G _ h1).append (k G _ h2)
theorem VWL.of:∀ {l l':List V} (hl:l.length = l'.length) (h:∀ (i:Nat) (h1:i < l.length) (h2:i < l'.length),VW l[i] l'[i]),VWL l l'
 | [],[],_,_=>.nil
 | [],_::_,hl,_=>by simp at hl
 | _::_,[],hl,_=>by simp at hl
 | v::l,v'::l',hl,h=>.cons (h 0 (by simp) (by simp)) (VWL.of (by simpa using hl) fun i h1 h2=>h (i+1) (by simp;omega) (by simp;omega))
theorem PureC.weak {P:Program} {f:FuncId} {ds ds':List V} {R:V→Prop} (h:PureC P f ds' R) (hw:VWL ds ds'):PureC P f ds R :=
 ⟨h.1,fun G w vals hG hd=>h.2 G w vals hG (hw G vals hd)⟩
def VO (v v':V):Prop:=∀ (G:Gm) (w:World) (lo:Nat) (x:Value) (bs:List Nat),OwnR G w lo v x bs→OwnR G w lo v' x bs
theorem VO.refl (v:V):VO v v:=fun _ _ _ _ _ h=>h
theorem PureC.weakR {P:Program} {f:FuncId} {ds:List V} {e e':V} (h:PureC P f ds (fun r=>r = e)) (hw:VO e e'):PureC P f ds (fun r=>r = e') :=
 ⟨h.1,fun G w vals hG hd=>(h.2 G w vals hG hd).mono fun _ _ ⟨r,x,e1,h1,h2,G',bs,h3,h4,h5,h6,h7⟩=>⟨e',x,e1,rfl,h2,G',bs,h3,h4,h5,hw _ _ _ _ _ (h1 ▸ h6),h7⟩⟩
def VOL (l l':List V):Prop:=∀ (G:Gm) (w:World) (lo:Nat) (xs:List Value) (bs:List Nat),OwnRL G w lo l xs bs→OwnRL G w lo l' xs bs
theorem VOL.nil:VOL [] []:=fun _ _ _ _ _ h=>h
theorem VOL.cons {v v':V} {l l':List V} (h:VO v v') (t:VOL l l'):VOL (v::l) (v'::l'):=fun G w lo xs bs hd=>by
 cases hd with | cons a b=>exact .cons (h _ _ _ _ _ a) (t _ _ _ _ _ b)
theorem VO.nils:VO .nils (.sl [] 0):=fun G w lo x bs h=>by
 cases h with | deep h=>exact .deep (VW.nils G x h)
theorem VO.sl {l l':List V} {n:Nat} (hw:VWL l l'):VO (.sl l n) (.sl l' n):=fun G w lo x bs h=>by
 cases h with | deep h=>exact .deep (VW.sl hw G x h)
theorem VO.fp {l l':List V} {n:Nat} (hw:VWL l l'):VO (.fp l n) (.fp l' n):=fun G w lo x bs h=>by
 cases h with | deep h=>exact .deep (VW.fp hw G x h)
theorem VO.tup {l l':List V} (h:VOL l l') (hw:VWL l l'):VO (.tup l) (.tup l'):=fun G w lo x bs hd=>by
 cases hd with
 | deep a=>exact .deep (VW.tup hw G x a)
 | tup a=>exact .tup (h _ _ _ _ _ a)
theorem VO.agg {l l':List V} (h:VOL l l') (hw:VWL l l'):VO (.agg l) (.agg l'):=fun G w lo x bs hd=>by
 cases hd with
 | deep a=>exact .deep (VW.agg hw G x a)
 | agg a b=>exact .agg (h _ _ _ _ _ a) b
theorem VO.own {l l':List V} {n sz:Nat} (hl:l'.length = l.length) (h:∀ (i:Nat) (h1:i < l.length) (h2:i < l'.length),VW l[i] l'[i]):VO (.own l n sz) (.own l' n sz):=fun G w lo x bs hd=>by
 cases hd with
 | deep a=>cases a
 | own0 sz =>
  cases l' with
  | nil=>exact .own0 sz
  | cons _ _=>simp at hl
 | own h1 h2 h3 h4 h5 h6 h7 =>
  refine .own h1 h2 h3 h4 h5 (by rw [hl];exact h6) fun i v e=>?_
  obtain ⟨h8,rfl⟩:=List.getElem?_eq_some_iff.1 e
  have h9:i < l.length:=by omega
  obtain ⟨x,hx,hr,ho⟩:=h7 i (l[i]'h9) (by simp [h9])
  exact ⟨x,hx,h i h9 h8 _ _ hr,ho⟩
theorem VW.own {l l':List V} {n sz:Nat}:VW (.own l n sz) (.own l' n sz):=fun G x h=>by cases h
section
variable {P:Program} {Y:Ys} {K:Ex→St→Prop} {fr E:Env} {H:Hp} {nx:Nat}
def kItr2 {α:Type} (o:Nat) (E:Env) (K:Ex→St→Prop) (gg:α→Hp) (J:α→Nat→Prop):Ex→St→Prop
 | .nm,st=>∃ x,HS ((gg x).put o (recO 1)) st.H∧J x st.nx∧o < st.nx
 | .rt,st=>∃ H1,HS (H1.put o (recO 1)) st.H∧H1 o = none∧∀ n,st.nx≤n→K .rt ⟨E,H1,n⟩
 | .ex id,st=>∃ H1,HS (H1.put o (recO 1)) st.H∧H1 o = none∧∀ n,st.nx≤n→K (.ex id) ⟨E,H1,n⟩
end
section
variable {P:Program} {Y:Ys} {K:Ex→St→Prop} {fr E:Env} {H:Hp} {nx:Nat}
end
theorem HS.p {A B : Hp} {o : Nat} {ob : Ob} (h2 : HS A B) (h1 : B o = some ob := by (simp (disch := omega) only [put_same, put_ne, ne_eq] <;> rfl)) : HS (A.put o ob) B := fun i x e => by
 simp only [Hp.put] at e
 split at e
 ·rename_i hc;rw [hc,h1];exact e
 ·exact h2 i x e
attribute [go_sem] Option.isNone_none Option.isNone_some Bool.true_or Bool.false_or
theorem put_comm {H:Hp} {o o':Nat} {x y:Ob} (h:o≠o'):(H.put o x).put o' y = (H.put o' y).put o x:=by
 funext i;simp only [Hp.put];split <;> split <;> first | rfl | omega
section
variable {P:Program} {T:Tab}
end
end Go.Dp
