/- More operations: indexes, lengths, slices, literals, make, append, copy, nil. -/
import Derived.Test.YtgbjppfikncpcaaGreatDpMem
namespace Go.Dp
open Go.RowKit
section
variable {P:Program} {o:Oper} {a:Act} {w w0:World} {G:Gm} {σ:Sg} {H H':Hp} {D:Nat→Prop} {id:Nat} {rd:Opd→Option V} {v:V}
theorem sizeIs_some {t:TypeId} {n:Nat} (h:sizeIs P t n = true):∃ i,P.info? t = some i∧i.size = n:=by
 unfold sizeIs at h
 split at h
 ·rename_i i hi;exact ⟨i,hi,by simpa using h⟩
 ·cases h
theorem bytesIs_some {t:TypeId} {n:Nat} (h:bytesIs P t n = true):∃ i,P.info? t = some i∧i.bytes = n:=by
 unfold bytesIs at h
 split at h
 ·rename_i i hi;exact ⟨i,hi,by simpa using h⟩
 ·cases h
theorem okSliceT_some {t:TypeId} {arr:Option Nat} {sz:Nat} (h:okSliceT P t arr sz = true) :
  ∃ e i,P.info? e = some i∧i.size = sz∧(match arr with | none=>P.underlying t = some (.slice e) | some n=>P.underlying t = some (.array n e)):=by
 unfold okSliceT at h
 split at h
 ·rename_i e hu;obtain ⟨i,hi,hs⟩:=sizeIs_some h;exact ⟨_,i,hi,hs,by assumption⟩
 ·simp at h
  obtain ⟨hn,h⟩:=h
  obtain ⟨i,hi,hs⟩:=sizeIs_some h;exact ⟨_,i,hi,hs,by subst hn;assumption⟩
 ·cases h
theorem VR.vint_inv {x:V} {y:Value} {n:Int} (h:VR G σ x y) (hx:vint? x = some n):∃ k,y = .int k n:=by
 cases x <;> simp [vint?] at hx
 subst hx
 exact ⟨_,h.int_inv⟩
theorem run_exec_iaddr {t:TypeId} {X I:Operand} (ho:o.op = .indexAddr t X I) :
  (execOp a.eval o).run P w = ((Instr.indexAt t (a.eval X) (a.eval I)).run P w).andThen fun v w'=>.ok (.value v) w':=by
 unfold execOp;simp only [ho,Sem.run_bind,Sem.run_pure]
theorem run_indexAt_slice {t e:TypeId} {i:TypeInfo} {k:IntKind} {j:Int} {b q len c:Nat} (hu:P.underlying t = some (.slice e)) (hi:P.info? e = some i) (h0:0≤j) (h1:j < len) :
  (Instr.indexAt t (.slice (some ⟨b,q,none⟩) len c) (.int k j)).run P w = .ok (.pointer (some ⟨b,q+j.toNat * i.size,none⟩)) w:=by
 unfold Instr.indexAt
 simp [asIntOf,run_underlying hu,h0,h1,run_sizeOf' hi,add_none]
theorem run_indexAt_array {t e:TypeId} {i:TypeInfo} {k:IntKind} {j:Int} {b q n:Nat} (hu:P.underlying t = some (.array n e)) (hi:P.info? e = some i) (h0:0≤j) (h1:j < n) :
  (Instr.indexAt t (.pointer (some ⟨b,q,none⟩)) (.int k j)).run P w = .ok (.pointer (some ⟨b,q+j.toNat * i.size,none⟩)) w:=by
 unfold Instr.indexAt
 simp [asIntOf,run_underlying hu,h0,h1,run_sizeOf' hi,add_none,Instr.sureAddr]
theorem s_iaddr {t:TypeId} {X I:Operand} {x i:Opd} {arr:Option Nat} {sz:Nat} (ho:o.op = .indexAddr t X I) (hrd:RdR G σ a rd) (h1:okOpd X x = true) (h2:okOpd I i = true) (ht:okSliceT P t arr sz = true)
  (hrel:Rel w0 G σ H D w) (hst:stepOp (.iaddr arr sz x i) rd H id = some (v,H')):OpOut P o a w w0 G σ H' (fun o=>D o∨o = id) v:=by
 simp only [stepOp,Option.map_eq_some_iff,Option.bind_eq_some_iff] at hst
 obtain ⟨p,hp,q,hq,r,hr,e⟩:=hst
 cases e
 have e1:=hrd X x h1 _ hp
 have e2:=hrd I i h2 _ hq
 simp only [iaddrV,Option.bind_eq_some_iff] at hr
 obtain ⟨j,hj,hr⟩:=hr
 obtain ⟨k,hI⟩:=e2.vint_inv hj
 obtain ⟨e,ti,hti,rfl,hu⟩:=okSliceT_some ht
 generalize hX:a.eval X = z at e1
 split at hr
 ·split at hr
  ·rename_i hb;cases hr
   cases e1 with
   | deep h =>
    cases h with
    | sl0=>simp at hb;omega
    | sl hl hg hc ho1 =>
     refine out_same hrel (x:=.pointer (some ⟨_,_+_,none⟩)) ?_ (.deep (.fp hl hg ho1))
     rw [run_exec_iaddr ho,hX,hI,run_indexAt_slice hu hti hb.1 hb.2];rfl
  ·cases hr
 ·split at hr
  ·rename_i hb;cases hr
   cases e1 with
   | deep h=>cases h
   | ref hs hc hN =>
    refine out_same hrel (x:=.pointer (some ⟨_,_+_,none⟩)) ?_ (.ptr hs)
    rw [run_exec_iaddr ho,hX,hI,run_indexAt_slice hu hti hb.1 hb.2];rfl
   | ref0 hs=>simp at hb;omega
  ·cases hr
 ·split at hr
  ·rename_i hb;cases hr
   cases e1 with
   | deep h =>
    cases h with
    | fp hl hg ho1 =>
     refine out_same hrel (x:=.pointer (some ⟨_,_+(_+_),none⟩)) ?_ (.deep (.fp hl hg ho1))
     rw [run_exec_iaddr ho,hX,hI,run_indexAt_array hu hti hb.1 hb.2,Nat.add_assoc];rfl
  ·cases hr
 ·split at hr
  ·rename_i hb;cases hr
   cases e1 with
   | deep h=>cases h
   | ptr hs =>
    refine out_same hrel (x:=.pointer (some ⟨_,_+_,none⟩)) ?_ (.ptr hs)
    rw [run_exec_iaddr ho,hX,hI,run_indexAt_array hu hti hb.1 hb.2];rfl
  ·cases hr
 ·cases hr
theorem run_exec_len {t:TypeId} {X:Operand} (ho:o.op = .call { callee:=.builtin .len,args:=#[X],argTypes:=#[t] }) :
  (execOp a.eval o).run P w = ((Builtin.len_ #[t] o.type #[a.eval X]).run P w).andThen fun v w'=>.ok (.value v) w':=by
 unfold execOp;simp only [ho,resolve,invoke,builtin,Sem.run_bind,Sem.run_pure,Result.andThen_ok,List.map_toArray,List.map_cons,List.map_nil]
theorem s_len {t:TypeId} {X:Operand} {x:Opd} {arr:Option Nat} (ho:o.op = .call { callee:=.builtin .len,args:=#[X],argTypes:=#[t] }) (hrd:RdR G σ a rd) (h1:okOpd X x = true) (ht:okLenT P t arr = true)
  (hrel:Rel w0 G σ H D w) (hst:stepOp (.len arr x) rd H id = some (v,H')):OpOut P o a w w0 G σ H' (fun o=>D o∨o = id) v:=by
 unfold okLenT at ht
 cases arr with
 | some m =>
  simp only [stepOp,Option.some.injEq,Prod.mk.injEq] at hst
  obtain ⟨rfl,rfl⟩:=hst
  refine out_same hrel (x:=.int .i64 m) ?_ (.deep (.int _ _))
  rw [run_exec_len ho]
  split at ht
  ·rename_i hu heq;cases heq
  ·rename_i n e m' hu heq
   simp at ht;subst ht;cases heq
   simp [Builtin.len_,run_underlying hu,goInt]
  ·cases ht
 | none =>
  simp only [stepOp,Option.map_eq_some_iff,Option.bind_eq_some_iff] at hst
  obtain ⟨n,⟨p,hp,hn⟩,e⟩:=hst
  cases e
  have e1:=hrd X x h1 _ hp
  generalize hX:a.eval X = z at e1
  have hz:∃ ad c,z = .slice ad n c:=by
   unfold lenV at hn
   split at hn
   ·cases hn
    cases e1 with
    | deep h=>cases h <;> exact ⟨_,_,rfl⟩
   ·cases hn
    cases e1 with
    | deep h=>cases h
    | ref=>exact ⟨_,_,rfl⟩
    | ref0=>exact ⟨_,_,rfl⟩
   ·cases hn
    cases e1 with
    | deep h=>cases h;exact ⟨_,_,rfl⟩
   ·cases hn
  obtain ⟨ad,c,rfl⟩:=hz
  refine out_same hrel (x:=.int .i64 n) ?_ (.deep (.int _ _))
  rw [run_exec_len ho,hX]
  split at ht
  ·rename_i hu heq
   simp [Builtin.len_,run_underlying hu,goInt]
  ·rename_i heq;cases heq
  ·cases ht
theorem s_slen {t:TypeId} {X:Operand} {x:Opd} (ho:o.op = .call { callee:=.builtin .len,args:=#[X],argTypes:=#[t] }) (hrd:RdR G σ a rd) (h1:okOpd X x = true) (ht:P.underlying t = some .string)
  (hrel:Rel w0 G σ H D w) (hst:stepOp (.slen x) rd H id = some (v,H')):OpOut P o a w w0 G σ H' (fun o=>D o∨o = id) v:=by
 simp only [stepOp,Option.map_eq_some_iff,Option.bind_eq_some_iff] at hst
 obtain ⟨s,⟨p,hp,hn⟩,e⟩:=hst
 cases e
 have e1:=hrd X x h1 _ hp
 cases p <;> simp [asS] at hn
 subst hn
 have hX:=e1.str_inv
 refine out_same hrel (x:=.int .i64 _) ?_ (.deep (.int _ _))
 rw [run_exec_len ho,hX]
 simp [Builtin.len_,run_underlying ht,goInt]
theorem run_exec_min {args:Array Operand} {ats:Array TypeId} (ho:o.op = .call { callee:=.builtin .min,args:=args,argTypes:=ats }) :
  (execOp a.eval o).run P w = ((Builtin.min_ ats o.type (args.map a.eval)).run P w).andThen fun v w'=>.ok (.value v) w':=by
 unfold execOp;simp only [ho,resolve,invoke,builtin,Sem.run_bind,Sem.run_pure,Result.andThen_ok]
theorem run_exec_max {args:Array Operand} {ats:Array TypeId} (ho:o.op = .call { callee:=.builtin .max,args:=args,argTypes:=ats }) :
  (execOp a.eval o).run P w = ((Builtin.max_ ats o.type (args.map a.eval)).run P w).andThen fun v w'=>.ok (.value v) w':=by
 unfold execOp;simp only [ho,resolve,invoke,builtin,Sem.run_bind,Sem.run_pure,Result.andThen_ok]
theorem fold_sound {f:V→V→Option V} {g:Value→Value→Sem Value} (hf:∀ x y z,f x y = some z→∀ X Y,VR G σ x X→VR G σ y Y→∃ Z,(g X Y).run P w = .ok Z w∧VR G σ z Z) :
  ∀ {l:List V} {L:List Value} {x z:V} {X:Value},VRL G σ l L→VR G σ x X→foldV f x l = some z→∃ Z,(L.foldlM g X).run P w = .ok Z w∧VR G σ z Z
 | _,_,x,z,X,.nil,hx,h=>by simp [foldV] at h;subst h;exact ⟨X,by simp [List.foldlM,pure],hx⟩
 | _,_,x,z,X,.cons h1 t,hx,h=>by
  simp only [foldV,Option.bind_eq_some_iff] at h
  obtain ⟨c,hc,h⟩:=h
  obtain ⟨C,hC,hcr⟩:=hf _ _ _ hc _ _ hx h1
  obtain ⟨Z,hZ,hz⟩:=fold_sound hf t hcr h
  exact ⟨Z,by simp only [List.foldlM_cons,Sem.run_bind,hC,Result.andThen_ok,hZ],hz⟩
theorem s_mn {args:Array Operand} {ats:Array TypeId} {xs:List Opd} (ho:o.op = .call { callee:=.builtin .min,args:=args,argTypes:=ats }) (hrd:RdR G σ a rd) (h1:okOpds args.toList xs = true)
  (hrel:Rel w0 G σ H D w) (hst:stepOp (.mn xs) rd H id = some (v,H')):OpOut P o a w w0 G σ H' (fun o=>D o∨o = id) v:=by
 simp only [stepOp,Option.map_eq_some_iff,Option.bind_eq_some_iff] at hst
 obtain ⟨r,⟨l,hl,hr⟩,e⟩:=hst
 cases e
 have e1:=rdL_vrl hrd h1 hl
 have key:∃ Z,(Builtin.min_ ats o.type (args.map a.eval)).run P w = .ok Z w∧VR G σ v Z:=by
  unfold Builtin.min_
  rw [Array.toList_map]
  generalize List.map a.eval args.toList = L at e1
  cases e1 with
  | nil=>simp [fold1] at hr
  | cons h t =>
   refine fold_sound (fun x y z hz X Y hX hY=>?_) t h hr
   unfold mn2 at hz
   split at hz
   ·cases hz
    rw [hX.int_inv,hY.int_inv]
    exact ⟨_,by simp [Builtin.min2],.deep (.int _ _)⟩
   ·cases hz
 obtain ⟨Z,hZ,hv⟩:=key
 refine out_same hrel (x:=Z) ?_ hv
 rw [run_exec_min ho,hZ];rfl
theorem s_mx {args:Array Operand} {ats:Array TypeId} {xs:List Opd} (ho:o.op = .call { callee:=.builtin .max,args:=args,argTypes:=ats }) (hrd:RdR G σ a rd) (h1:okOpds args.toList xs = true)
  (hrel:Rel w0 G σ H D w) (hst:stepOp (.mx xs) rd H id = some (v,H')):OpOut P o a w w0 G σ H' (fun o=>D o∨o = id) v:=by
 simp only [stepOp,Option.map_eq_some_iff,Option.bind_eq_some_iff] at hst
 obtain ⟨r,⟨l,hl,hr⟩,e⟩:=hst
 cases e
 have e1:=rdL_vrl hrd h1 hl
 have key:∃ Z,(Builtin.max_ ats o.type (args.map a.eval)).run P w = .ok Z w∧VR G σ v Z:=by
  unfold Builtin.max_
  rw [Array.toList_map]
  generalize List.map a.eval args.toList = L at e1
  cases e1 with
  | nil=>simp [fold1] at hr
  | cons h t =>
   refine fold_sound (fun x y z hz X Y hX hY=>?_) t h hr
   unfold mx2 at hz
   split at hz
   ·cases hz
    rw [hX.int_inv,hY.int_inv]
    exact ⟨_,by simp [Builtin.max2],.deep (.int _ _)⟩
   ·cases hz
 obtain ⟨Z,hZ,hv⟩:=key
 refine out_same hrel (x:=Z) ?_ hv
 rw [run_exec_max ho,hZ];rfl
theorem fill_fold (off:Nat):∀ (l:List Value) (k:Nat) (cs:Array Value),off+k+l.length≤cs.size →
  ((l.zipIdx k).foldl (fun cs (x:Value × Nat)=>cs.setIfInBounds (off+x.2) x.1) cs).toList = cs.toList.take (off+k)++l++cs.toList.drop (off+k+l.length)
 | [],k,cs,_=>by simp
 | v::l,k,cs,h=>by
  simp only [List.zipIdx_cons,List.foldl_cons]
  rw [fill_fold off l (k+1) _ (by simp at h ⊢;omega)]
  have e:=list_seg_step cs.toList (off+k) v l (by simp at h ⊢;omega)
  simpa [Array.toList_setIfInBounds,Nat.add_assoc] using e
theorem fill_sound {place:Nat→Option (Nat × Nat)} (hrd:RdR G σ a rd):∀ {parts:List (Nat × Operand)} {ps:List (Nat × Nat × Opd)},okParts place parts ps = true→∀ {l:List (Nat × Nat × V)},rdParts rd ps = some l →
  ∀ {z r:List V} {cs:Array Value},VRL G σ z cs.toList→Ones cs.toList→fillV z l = some r →
  ∃ arr,Instr.fill place cs (parts.map fun (i,x)=>(i,a.eval x)) = some arr∧VRL G σ r arr.toList∧Ones arr.toList
 | [],[],_,l,hl,z,r,cs,hz,h1,hr=>by
  simp [rdParts] at hl;subst hl
  simp [fillV] at hr;subst hr
  exact ⟨cs,rfl,hz,h1⟩
 | (i,X)::parts,(off,size,x)::ps,hok,l,hl,z,r,cs,hz,h1,hr=>by
  simp [okParts] at hok
  obtain ⟨⟨hp,hx⟩,hok⟩:=hok
  simp only [rdParts,Option.bind_eq_some_iff,Option.map_eq_some_iff] at hl
  obtain ⟨u,hu,m,hm,rfl⟩:=hl
  simp only [fillV,Option.bind_eq_some_iff] at hr
  obtain ⟨vc,hvc,hr⟩:=hr
  split at hr
  ·rename_i hc
   obtain ⟨c1,c2⟩:=hc
   obtain ⟨hcv,ho1⟩:=(hrd X x hx u hu).cellsOf hvc
   have hlen:(a.eval X).cells.toList.length = size:=by rw [← hcv.length];exact c1
   have hcs:z.length = cs.size:=by rw [hz.length];simp
   have hf:=fill_fold off (a.eval X).cells.toList 0 cs (by omega)
   simp only [Nat.add_zero,hlen] at hf
   obtain ⟨arr,harr,h2,h3⟩:=fill_sound hrd hok hm (z:=z.take off++vc++z.drop (off+size)) (r:=r) (cs:=((a.eval X).cells.toList.zipIdx 0).foldl (fun cs (x:Value × Nat)=>cs.setIfInBounds (off+x.2) x.1) cs)
    (by rw [hf];exact ((hz.take _).append hcv).append (hz.drop _))
    (by rw [hf]; intro y hy
        rcases List.mem_append.1 hy with hy | hy
        ·rcases List.mem_append.1 hy with hy | hy
         ·exact h1 y (List.mem_of_mem_take hy)
         ·exact ho1 y hy
        ·exact h1 y (List.mem_of_mem_drop hy)) hr
   refine ⟨arr,?_,h2,h3⟩
   have hs:(a.eval X).cells.size = size:=by rw [← hlen];simp
   simp only [List.map_cons,Instr.fill,hp]
   rw [if_neg (by simp [hs];omega)]
   rw [← harr]
   congr 1
   rw [← Array.foldl_toList,Array.toList_zipIdx]
  ·cases hr
 | [],_::_,hok,_,_,_,_,_,_,_,_=>by simp [okParts] at hok
 | _::_,[],hok,_,_,_,_,_,_,_,_=>by simp [okParts] at hok
theorem run_exec_build {t:TypeId} {parts:Array (Nat × Operand)} (ho:o.op = .build t parts) :
  (execOp a.eval o).run P w = ((Instr.build t (parts.map fun (i,x)=>(i,a.eval x))).run P w).andThen fun v w'=>.ok (.value v) w':=by
 unfold execOp;simp only [ho,Sem.run_bind,Sem.run_pure]
theorem s_build {t:TypeId} {parts:Array (Nat × Operand)} {z:List V} {ps:List (Nat × Nat × Opd)} (ho:o.op = .build t parts) (hrd:RdR G σ a rd) (ht:okBuild P t parts.toList z ps = true)
  (hrel:Rel w0 G σ H D w) (hst:stepOp (.build z ps) rd H id = some (v,H')):OpOut P o a w w0 G σ H' (fun o=>D o∨o = id) v:=by
 simp only [stepOp,Option.map_eq_some_iff,Option.bind_eq_some_iff] at hst
 obtain ⟨r,⟨l,hl,hr⟩,e⟩:=hst
 cases e
 unfold okBuild at ht
 simp only [Bool.and_eq_true] at ht
 obtain ⟨hz,ht⟩:=ht
 obtain ⟨i,zv,hi,hzv,hs⟩:=zeroIs_some hz
 have key:∃ arr,P.built t (parts.map fun (i,x)=>(i,a.eval x)).toList = some arr∧VRL G σ r arr.toList∧Ones arr.toList:=by
  unfold Program.built
  rw [Array.toList_map]
  split at ht
  ·rename_i fields hu
   split at ht
   ·rename_i places hp
    obtain ⟨arr,h1,h2,h3⟩:=fill_sound hrd ht hl (svals_dr (G:=G) hs).vrl (svals_ones hs) hr
    refine ⟨arr,?_,h2,h3⟩
    unfold placesOf at hp
    simp only [hi,hu,hzv,hp]
    exact h1
   ·cases ht
  ·rename_i n e hu
   split at ht
   ·rename_i ie hie
    obtain ⟨arr,h1,h2,h3⟩:=fill_sound hrd ht hl (svals_dr (G:=G) hs).vrl (svals_ones hs) hr
    refine ⟨arr,?_,h2,h3⟩
    simp only [hi,hu,hzv,hie]
    exact h1
   ·cases ht
  ·cases ht
 obtain ⟨arr,h1,h2,h3⟩:=key
 refine out_same hrel (x:=.agg arr) ?_ (by have:=VR.agg h2 h3;simpa using this)
 rw [run_exec_build ho,run_build w t _ arr h1];rfl
theorem fillV_length:∀ {l:List (Nat × Nat × V)} {z r:List V},fillV z l = some r→r.length = z.length
 | [],z,r,h=>by simp [fillV] at h;rw [h]
 | (off,size,u)::l,z,r,h=>by
  simp only [fillV,Option.bind_eq_some_iff] at h
  obtain ⟨vc,_,h⟩:=h
  split at h
  ·rename_i hc
   rw [fillV_length h]
   simp only [List.length_append,List.length_take,List.length_drop]
   omega
  ·cases h
theorem run_exec_bsl {t:TypeId} {len:Nat} {parts:Array (Nat × Operand)} (ho:o.op = .buildSlice t len parts) :
  (execOp a.eval o).run P w = ((Instr.buildSlice t len (parts.map fun (i,x)=>(i,a.eval x))).run P w).andThen fun v w'=>.ok (.value v) w':=by
 unfold execOp;simp only [ho,Sem.run_bind,Sem.run_pure]
theorem map_self (z:Array Value) (k:Nat):(List.range z.size).map (fun i=>z[(k * z.size+i) % z.size]!) = z.toList:=by
 apply List.ext_getElem?
 intro i
 by_cases h:i < z.size
 ·simp [h,Nat.mod_eq_of_lt h]
 ·simp [h]
theorem rep_list (z:Array Value):∀ n,(List.range (n * z.size)).map (fun i=>z[i % z.size]!) = (List.replicate n z.toList).flatten
 | 0=>by simp
 | n+1=>by
  rw [Nat.succ_mul,List.range_add,List.map_append,rep_list z n,List.map_map]
  have:=map_self z n
  rw [show ((fun i=>z[i % z.size]!) ∘ fun x=>n * z.size+x) = fun i=>z[(n * z.size+i) % z.size]! from rfl,this]
  simp [List.replicate_succ']
theorem rep_cells (z:Array Value) (n:Nat):((Array.range (n * z.size)).map (fun i=>z[i % z.size]!)).toList = (List.replicate n z.toList).flatten:=by
 rw [Array.toList_map,Array.toList_range,rep_list]
theorem s_bsl {t:TypeId} {len:Nat} {parts:Array (Nat × Operand)} {sz:Nat} {z:List V} {ps:List (Nat × Nat × Opd)} (ho:o.op = .buildSlice t len parts) (hrd:RdR G σ a rd) (ht:okBsl P t len parts.toList sz z ps = true)
  (hid:¬ D id) (hrel:Rel w0 G σ H D w) (hst:stepOp (.bsl sz len z ps) rd H id = some (v,H')):OpOut P o a w w0 G σ H' (fun o=>D o∨o = id) v:=by
 simp only [stepOp,Option.map_eq_some_iff,Option.bind_eq_some_iff] at hst
 obtain ⟨r,⟨l,hl,hr⟩,e⟩:=hst
 cases e
 unfold okBsl at ht
 split at ht
 ·rename_i e hu
  simp only [Bool.and_eq_true,decide_eq_true_eq] at ht
  obtain ⟨⟨⟨h1,h2⟩,h3⟩,h4⟩:=ht
  obtain ⟨i,hi,hsz⟩:=sizeIs_some h1
  simp only [hi] at h4
  split at h4
  ·rename_i zv hzv
   simp only [Bool.and_eq_true,decide_eq_true_eq] at h4
   obtain ⟨h5,h6⟩:=h4
   subst hsz
   have hc0:((Array.range (len * i.size)).map (fun i=>zv.cells[i % zv.cells.size]!)).toList = (List.replicate len zv.cells.toList).flatten:=by rw [← h5];exact rep_cells _ _
   obtain ⟨arr,k1,k2,k3⟩:=fill_sound (place:=fun j=>some (j * i.size,i.size)) hrd h3 hl (cs:=(Array.range (len * i.size)).map (fun i=>zv.cells[i % zv.cells.size]!)) (by rw [hc0];exact (svals_dr (G:=G) h6).vrl) (by rw [hc0];exact svals_ones h6) hr
   have hal:arr.toList.length = len * i.size:=by
    rw [← k2.length,fillV_length hr,(svals_dr (G:=fun _ _=>none) h6).length,← hc0]
    simp
   obtain ⟨σ',hse,hs',hr'⟩:=hrel.alloc hid k2 k3 i.size e
   refine ⟨.slice (some ⟨w.heap.size,0,none⟩) len len,_,σ',.inl ?_,NC.alloc _ _,hse,hr',.ref hs' (Nat.le_refl _) (by simp only [hal];omega)⟩
   rw [run_exec_bsl ho]
   simp only [Instr.buildSlice,run_underlying hu,Sem.run_bind,Result.andThen_ok,run_sizeOf' hi]
   rw [if_neg (by omega)]
   by_cases h0:len * i.size = 0
   ·rw [h0] at k1
    simp only [h0,if_true]
    simp only [Array.range_zero',Array.map_empty] at k1 ⊢
    simp [k1,newRow]
   ·simp [h0,run_zeroValue' hi hzv,k1,newRow]
  ·cases h4
 ·cases ht
end
end Go.Dp
