/- Slices, make, append, copy, nil. -/
import Derived.Test.YtgbjppfikncpcaaGreatDpMem2
namespace Go.Dp
open Go.RowKit
set_option linter.unusedSimpArgs false
section
variable {P:Program} {o:Oper} {a:Act} {w w0:World} {G:Gm} {σ:Sg} {H H':Hp} {D:Nat→Prop} {id:Nat} {rd:Opd→Option V} {v:V}
def VRO (G:Gm) (σ:Sg):Option V→Option Value→Prop
 | none,none=>True
 | some v,some x=>VR G σ v x
 | _,_=>False
theorem rdO_vr (hrd:RdR G σ a rd) {X:Option Operand} {x:Option Opd} (hok:okOpdO X x = true) {l:Option V} (h:rdO rd x = some l):VRO G σ l (X.map a.eval):=by
 cases X <;> cases x <;> simp [okOpdO] at hok <;> simp [rdO] at h
 ·subst h;trivial
 ·obtain ⟨v,hv,rfl⟩:=h;exact hrd _ _ hok _ hv
theorem slBounds_sound {len cap:Nat} {lo hi mx:Option V} {LO HI MX:Option Value} {l h:Nat} (hb:slBounds len lo hi mx = some (l,h)) (hlo:VRO G σ lo LO) (hhi:VRO G σ hi HI) (hmx:VRO G σ mx MX) (hc:len≤cap) (isS:Bool) :
  ∃ m,(Instr.sliceBounds isS len cap LO HI MX).run P w = .ok (l,h,m) w∧l≤h∧h≤m∧m≤cap∧h≤len:=by
 unfold slBounds at hb
 simp only [Option.bind_eq_some_iff,Option.map_eq_some_iff] at hb
 obtain ⟨m,hm,h',hh,l',hl,e⟩:=hb
 cases e
 -- the greatest bound
 have km:∃ M,(match (generalizing:=false) MX with | some v=>Instr.sliceBound v cap (if isS then BoundsCode.slice3Acap else .slice3Alen) | none=>pure cap:Sem Nat).run P w = .ok M w∧M≤cap∧m≤M∧(mx = none→m = len)∧(mx≠none→M = m∧m≤len)∧(MX = none↔mx = none):=by
  cases mx with
  | none =>
   cases MX with
   | none=>simp at hm;subst hm;exact ⟨cap,rfl,Nat.le_refl _,hc,fun _=>rfl,fun h=>absurd rfl h,by simp⟩
   | some _=>exact hmx.elim
  | some v =>
   cases MX with
   | none=>exact hmx.elim
   | some x =>
    simp only [Option.bind_eq_some_iff] at hm
    obtain ⟨n,hn,hm⟩:=hm
    split at hm
    ·rename_i hr;cases hm
     obtain ⟨k,rfl⟩:=VR.vint_inv hmx hn
     refine ⟨n.toNat,run_sliceBound w k n cap _ hr.1 (by omega),by omega,Nat.le_refl _,by simp,fun _=>⟨rfl,by omega⟩,by simp⟩
    ·cases hm
 obtain ⟨M,hM,hMc,hmM,hm1,hm2,hmn⟩:=km
 have kh : (match (generalizing := false) HI, MX with | some v, some _ => Instr.sliceBound v M .slice3B | some v, none => Instr.sliceBound v M (if isS then .sliceAcap else .sliceAlen) | none, none => pure len | none, some _ => stuck "Slice: max without high" : Sem Nat).run P w = .ok h w ∧ h ≤ M ∧ h ≤ len := by
  cases hi with
  | none =>
   cases HI with
   | none =>
    cases mx with
    | none =>
     have hX:=hmn.2 rfl;subst hX
     simp at hh;subst hh
     exact ⟨rfl,by have:=hm1 rfl;omega,Nat.le_refl _⟩
    | some _=>simp at hh
   | some _=>exact hhi.elim
  | some v =>
   cases HI with
   | none=>exact hhi.elim
   | some x =>
    simp only [Option.bind_eq_some_iff] at hh
    obtain ⟨n,hn,hh⟩:=hh
    split at hh
    ·rename_i hr;cases hh
     obtain ⟨k,rfl⟩:=VR.vint_inv hhi hn
     have hml:m≤len:=by
      cases mx with
      | none=>rw [hm1 rfl];exact Nat.le_refl _
      | some _=>exact (hm2 (by simp)).2
     refine ⟨?_,by omega,by omega⟩
     cases MX with
     | none=>exact run_sliceBound w k n M _ hr.1 (by omega)
     | some _=>exact run_sliceBound w k n M _ hr.1 (by omega)
    ·cases hh
 have kl:(match (generalizing:=false) LO with | some v=>Instr.sliceBound v h (if MX.isSome then .slice3C else .sliceB) | none=>pure 0:Sem Nat).run P w = .ok l w∧l≤h:=by
  cases lo with
  | none =>
   cases LO with
   | none=>simp at hl;subst hl;exact ⟨rfl,Nat.zero_le _⟩
   | some _=>exact hlo.elim
  | some v =>
   cases LO with
   | none=>exact hlo.elim
   | some x =>
    simp only [Option.bind_eq_some_iff] at hl
    obtain ⟨n,hn,hl⟩:=hl
    split at hl
    ·rename_i hr;cases hl
     obtain ⟨k,rfl⟩:=VR.vint_inv hlo hn
     exact ⟨run_sliceBound w k n h _ hr.1 (by omega),by omega⟩
    ·cases hl
 refine ⟨M,?_,kl.2,kh.2.1,hMc,kh.2.2⟩
 have kh1:=kh.1
 have kl1:=kl.1
 have hnn:HI = none→MX = none:=fun e=>by
  subst e
  cases hi with
  | none=>exact hmn.2 (by cases mx <;> simp_all)
  | some _=>exact hhi.elim
 clear kh kl hm hh hl hlo hhi hmx hm1 hm2 hmn
 unfold Instr.sliceBounds
 cases MX with
 | none=>cases HI <;> cases LO <;> simp only [Sem.run_pure,Result.ok.injEq,Option.isSome_none,Option.isSome_some,Bool.false_eq_true,if_false,if_true] at hM kh1 kl1 <;> simp [hM,kh1,kl1]
 | some _ =>
  cases HI with
  | none=>have:=hnn rfl;cases this
  | some _=>cases LO <;> simp only [Sem.run_pure,Result.ok.injEq,Option.isSome_none,Option.isSome_some,Bool.false_eq_true,if_false,if_true] at hM kh1 kl1 <;> simp [hM,kh1,kl1]
theorem run_exec_slc {t:TypeId} {X:Operand} {lo hi mx:Option Operand} (ho:o.op = .slice t X lo hi mx) :
  (execOp a.eval o).run P w = ((Instr.sliceAt t (a.eval X) (lo.map a.eval) (hi.map a.eval) (mx.map a.eval)).run P w).andThen fun v w'=>.ok (.value v) w':=by
 unfold execOp;simp only [ho,Sem.run_bind,Sem.run_pure]
theorem run_sliceAt_s {t e:TypeId} {i:TypeInfo} {ad:Option Addr} {len cap l h m:Nat} {LO HI MX:Option Value} (hu:P.underlying t = some (.slice e)) (hi:P.info? e = some i)
  (hb:(Instr.sliceBounds true len cap LO HI MX).run P w = .ok (l,h,m) w) :
  (Instr.sliceAt t (.slice ad len cap) LO HI MX).run P w = .ok (.slice (if m = l then ad else ad.map (·.add (l * i.size))) (h - l) (m - l)) w:=by
 unfold Instr.sliceAt Instr.slice
 simp only [Sem.run_bind,run_underlying hu,Result.andThen_ok,hb,run_sizeOf' hi,Sem.run_pure]
theorem run_sliceAt_a {t e:TypeId} {i:TypeInfo} {ad:Addr} {n l h m:Nat} {LO HI MX:Option Value} (hu:P.underlying t = some (.array n e)) (hi:P.info? e = some i)
  (hb:(Instr.sliceBounds false n n LO HI MX).run P w = .ok (l,h,m) w) :
  (Instr.sliceAt t (.pointer (some ad)) LO HI MX).run P w = .ok (.slice (some (if m = l then ad else ad.add (l * i.size))) (h - l) (m - l)) w:=by
 unfold Instr.sliceAt
 simp only [Sem.run_bind,run_underlying hu,Result.andThen_ok,Instr.sureAddr,hb,run_sizeOf' hi,Sem.run_pure]
theorem take_get {α:Type} (l:List α) (d n i:Nat) (x:α) (h:((l.drop d).take n)[i]? = some x):l[d+i]? = some x∧i < n:=by
 rw [List.getElem?_take] at h
 split at h
 ·rw [List.getElem?_drop] at h;exact ⟨h,by assumption⟩
 ·cases h
theorem Ones.sub {vs:List Value} (h:Ones vs) (d n:Nat):Ones ((vs.drop d).take n):=fun x hx=>h x (List.mem_of_mem_drop (List.mem_of_mem_take hx))
theorem DRL.take' {l:List V} {m:List Value} (n:Nat) (h:DRL G l m):DRL G (l.take n) (m.take n) :=
 DRL.of_get (by simp [h.length]) fun i v hi => by
  rw [List.getElem?_take] at hi
  split at hi
  ·rename_i hlt;obtain ⟨x,hx,hr⟩:=h.get hi;exact ⟨x,by rw [List.getElem?_take,if_pos hlt];exact hx,hr⟩
  ·cases hi
theorem DRL.drop' {l:List V} {m:List Value} (n:Nat) (h:DRL G l m):DRL G (l.drop n) (m.drop n) :=
 DRL.of_get (by simp [h.length]) fun i v hi => by
  rw [List.getElem?_drop] at hi
  obtain ⟨x,hx,hr⟩:=h.get hi;exact ⟨x,by rw [List.getElem?_drop];exact hx,hr⟩
theorem s_slc {t:TypeId} {X:Operand} {x:Opd} {LO HI MX:Option Operand} {lo hi mx:Option Opd} {arr:Option Nat} {sz:Nat} (ho:o.op = .slice t X LO HI MX) (hrd:RdR G σ a rd) (h1:okOpd X x = true)
  (h2:okOpdO LO lo = true) (h3:okOpdO HI hi = true) (h4:okOpdO MX mx = true) (ht:okSliceT P t arr sz = true)
  (hrel:Rel w0 G σ H D w) (hst:stepOp (.slc arr sz x lo hi mx) rd H id = some (v,H')):OpOut P o a w w0 G σ H' (fun o=>D o∨o = id) v:=by
 simp only [stepOp,Option.map_eq_some_iff,Option.bind_eq_some_iff] at hst
 obtain ⟨p,hp,l,hl,h,hh,m,hm,r,hr,e⟩:=hst
 cases e
 have e1:=hrd X x h1 _ hp
 have el:=rdO_vr hrd h2 hl
 have eh:=rdO_vr hrd h3 hh
 have em:=rdO_vr hrd h4 hm
 obtain ⟨e,ti,hti,rfl,hu⟩:=okSliceT_some ht
 generalize hX:a.eval X = z at e1
 unfold slV at hr
 split at hr
 ·simp only [Option.map_eq_some_iff] at hr
  obtain ⟨⟨l1,h1'⟩,hb,rfl⟩:=hr
  cases e1 with
  | deep hd =>
   cases hd with
   | sl0 ad c =>
    obtain ⟨M,hrun,b1,b2,b3,b4⟩:=slBounds_sound (P:=P) (w:=w) hb el eh em (Nat.zero_le c) true
    obtain rfl:h1' = 0:=by omega
    obtain rfl:l1 = 0:=by omega
    refine out_same hrel (x:=.slice (if M = 0 then ad else ad.map (·.add (0 * ti.size))) 0 (M - 0)) ?_ (.deep (by simpa using DR.sl0 _ _))
    rw [run_exec_slc ho,hX,run_sliceAt_s hu hti hrun];rfl
   | sl hcl hg hc ho1 =>
    rename_i cells len vs b q c
    obtain ⟨M,hrun,b1,b2,b3,b4⟩:=slBounds_sound (P:=P) (w:=w) hb el eh em hc true
    refine out_same hrel (x:=.slice (if M = l1 then some ⟨b,q,none⟩ else (some ⟨b,q,none⟩:Option Addr).map (·.add (l1 * ti.size))) (h1' - l1) (M - l1)) ?_ (.deep ?_)
    ·rw [run_exec_slc ho,hX,run_sliceAt_s hu hti hrun];rfl
    ·by_cases hlh:h1' - l1 = 0
     ·rw [hlh];simpa using DR.sl0 _ _
     ·rw [if_neg (by omega)]
      simp only [Option.map_some,add_none]
      exact .sl ((hcl.drop' _).take' _) (fun i y hi=>by rw [Nat.add_assoc];exact hg _ _ (take_get _ _ _ _ _ hi).1) (by omega) (ho1.sub _ _)
 ·split at hr
  ·rename_i ob hob
   split at hr
   ·rename_i hsz
    simp only [Option.map_eq_some_iff] at hr
    obtain ⟨⟨l1,h1'⟩,hb,rfl⟩:=hr
    cases e1 with
    | deep hd=>cases hd
    | ref hs hc hN =>
     rename_i o' ver off len _ c B
     obtain ⟨M,hrun,b1,b2,b3,b4⟩:=slBounds_sound (P:=P) (w:=w) hb el eh em hc true
     refine out_same hrel (x:=.slice (if M = l1 then some ⟨B.b,off,none⟩ else (some ⟨B.b,off,none⟩:Option Addr).map (·.add (l1 * ti.size))) (h1' - l1) (M - l1)) ?_ ?_
     ·rw [run_exec_slc ho,hX,run_sliceAt_s hu hti hrun];rfl
     ·have hB:B.sz = ti.size:=by
       obtain ⟨hsz,rfl,hsp⟩:=hsz
       rcases hrel.obs _ _ hob with ⟨B',hB',_,hOb⟩ | ⟨hn,_⟩ | ⟨_,_,_,_,hOb⟩
       ·rw [hs] at hB';cases hB';rw [← hOb.sz,hsz]
       ·rw [hs] at hn;cases hn
       ·exact absurd hsp hOb.sp
      split
      ·rename_i hcase
       by_cases hM:M = l1
       ·have : l1 = 0 := by omega
        subst this;subst hM
        simp only [if_true,Nat.zero_mul,Nat.add_zero]
        exact .ref hs (by omega) (by omega)
       ·rw [if_neg hM]
        simp only [Option.map_some,add_none]
        exact .ref hs (by omega) (by
         rw [hB];rw [hB] at hN
         have:l1 * ti.size+(M - l1) * ti.size≤c * ti.size:=by rw [← Nat.add_mul];exact Nat.mul_le_mul_right _ (by omega)
         omega)
      ·rename_i hcase
       have:h1' - l1 = 0:=by omega
       rw [this]
       exact .deep (.sl0 _ _)
    | ref0 hs =>
     obtain ⟨M,hrun,b1,b2,b3,b4⟩:=slBounds_sound (P:=P) (w:=w) hb el eh em (Nat.le_refl 0) true
     obtain rfl:h1' = 0:=by omega
     obtain rfl:l1 = 0:=by omega
     obtain rfl:M = 0:=by omega
     refine out_same hrel (x:=.slice none 0 0) ?_ ?_
     ·rw [run_exec_slc ho,hX,run_sliceAt_s hu hti hrun];simp
     ·simpa using VR.ref0 hs
   ·cases hr
  ·cases hr
 ·simp only [Option.map_eq_some_iff] at hr
  obtain ⟨⟨l1,h1'⟩,hb,rfl⟩:=hr
  cases e1 with
  | deep hd =>
   cases hd
   obtain ⟨M,hrun,b1,b2,b3,b4⟩:=slBounds_sound (P:=P) (w:=w) hb el eh em (Nat.le_refl 0) true
   obtain rfl:h1' = 0:=by omega
   obtain rfl:l1 = 0:=by omega
   obtain rfl:M = 0:=by omega
   refine out_same hrel (x:=.slice none 0 0) ?_ (.deep .nils)
   rw [run_exec_slc ho,hX,run_sliceAt_s hu hti hrun];simp
 ·split at hr
  ·rename_i hcl
   simp only [Option.map_eq_some_iff] at hr
   obtain ⟨⟨l1,h1'⟩,hb,rfl⟩:=hr
   cases e1 with
   | deep hd =>
    cases hd with
    | fp hl' hg ho1 =>
     rename_i n cells off vs b q
     obtain ⟨M,hrun,b1,b2,b3,b4⟩:=slBounds_sound (P:=P) (w:=w) hb el eh em (Nat.le_refl n) false
     refine out_same hrel (x:=.slice (some (if M = l1 then ⟨b,q+off,none⟩ else (⟨b,q+off,none⟩:Addr).add (l1 * ti.size))) (h1' - l1) (M - l1)) ?_ (.deep ?_)
     ·rw [run_exec_slc ho,hX,run_sliceAt_a hu hti hrun];rfl
     ·by_cases hlh:h1' - l1 = 0
      ·rw [hlh];simpa using DR.sl0 _ _
      ·rw [if_neg (by omega)]
       simp only [add_none]
       exact .sl ((hl'.drop' _).take' _) (fun i y hi=>by rw [Nat.add_assoc,Nat.add_assoc,← Nat.add_assoc off];exact hg _ _ (take_get _ _ _ _ _ hi).1) (by omega) (ho1.sub _ _)
  ·cases hr
 ·split at hr
  ·rename_i ob hob
   split at hr
   ·rename_i hc
    obtain ⟨hsz,hv,hfit,hsp⟩:=hc
    simp only [Option.map_eq_some_iff] at hr
    obtain ⟨⟨l1,h1'⟩,hb,rfl⟩:=hr
    obtain ⟨B,hs,hz,hlo,hOb⟩:=ptr_obj hrel e1 hob hv (.inr hsp)
    subst hz
    rename_i n o' ver off _
    have hB:B.sz = ti.size:=by rw [← hOb.sz,hsz]
    obtain ⟨cc,tt,hbb,hN,hll,_⟩:=hOb.blk
    obtain ⟨M,hrun,b1,b2,b3,b4⟩:=slBounds_sound (P:=P) (w:=w) hb el eh em (Nat.le_refl n) false
    refine out_same hrel (x:=.slice (some (if M = l1 then ⟨B.b,off,none⟩ else (⟨B.b,off,none⟩:Addr).add (l1 * ti.size))) (h1' - l1) (M - l1)) ?_ ?_
    ·rw [run_exec_slc ho,hX,run_sliceAt_a hu hti hrun];rfl
    ·rw [hv] at hs
     have hMn:l1 * ti.size+(M - l1) * ti.size≤n * ti.size:=by rw [← Nat.add_mul];exact Nat.mul_le_mul_right _ (by omega)
     split
     ·rename_i hcase
      by_cases hM:M = l1
      ·have : l1 = 0 := by omega
       subst this;subst hM
       simp only [if_true,Nat.zero_mul,Nat.add_zero]
       exact .ref hs (by omega) (by simp;omega)
      ·rw [if_neg hM]
       simp only [add_none]
       exact .ref hs (by omega) (by rw [hB];omega)
     ·rename_i hcase
      have:h1' - l1 = 0:=by omega
      rw [this]
      exact .deep (.sl0 _ _)
   ·cases hr
  ·cases hr
 ·cases hr
theorem drl_rep {z:List V} {zl:List Value} (h:DRL G z zl):∀ n,DRL G (zerosV z n) (List.replicate n zl).flatten
 | 0=>by simpa [zerosV] using DRL.nil
 | n+1=>by simpa [zerosV,List.replicate_succ] using h.append (drl_rep h n)
theorem ones_rep {zl:List Value} (h:Ones zl) (n:Nat):Ones (List.replicate n zl).flatten:=fun x hx=>by
 obtain ⟨l,hl,hx⟩:=List.mem_flatten.1 hx
 rw [(List.mem_replicate.1 hl).2] at hx
 exact h x hx
theorem run_exec_mksl {t:TypeId} {L C:Operand} (ho:o.op = .makeSlice t L C) :
  (execOp a.eval o).run P w = ((Instr.makeSlice t (a.eval L) (a.eval C)).run P w).andThen fun v w'=>.ok (.value v) w':=by
 unfold execOp;simp only [ho,Sem.run_bind,Sem.run_pure]
theorem asI64_inv {x:V} {y:Value} {n:Int} (h:VR G σ x y) (hx:asI64 x = some n):y = .int .i64 n:=by
 unfold asI64 at hx
 split at hx
 ·cases hx;exact h.int_inv
 ·cases hx
theorem s_mksl {t:TypeId} {L C:Operand} {l c:Opd} {sz bytes:Nat} {z:List V} (ho:o.op = .makeSlice t L C) (hrd:RdR G σ a rd) (h1:okOpd L l = true) (h2:okOpd C c = true) (ht:okMakeT P t sz bytes z = true)
  (hid:¬ D id) (hrel:Rel w0 G σ H D w) (hst:stepOp (.mksl sz bytes z l c) rd H id = some (v,H')):OpOut P o a w w0 G σ H' (fun o=>D o∨o = id) v:=by
 simp only [stepOp,Option.bind_eq_some_iff] at hst
 obtain ⟨m,⟨p,hp,hm⟩,n,⟨q,hq,hn⟩,hst⟩:=hst
 split at hst
 ·rename_i hc
  obtain ⟨c1,c2,c3,c4,c5⟩:=hc
  cases hst
  have e1:=asI64_inv (hrd L l h1 _ hp) hm
  have e2:=asI64_inv (hrd C c h2 _ hq) hn
  unfold okMakeT at ht
  split at ht
  ·rename_i e hu
   simp only [Bool.and_eq_true] at ht
   obtain ⟨⟨k1,k2⟩,k3⟩:=ht
   obtain ⟨i,hi,hs⟩:=sizeIs_some k1
   obtain ⟨i',hi',hb⟩:=bytesIs_some k2
   rw [hi] at hi';cases hi'
   obtain ⟨i',zv,hi',hz,hsv⟩:=zeroIs_some k3
   rw [hi] at hi';cases hi'
   have hzs:zv.cells.size = i.size:=by
    have:=(svals_dr (G:=fun _ _=>none) hsv).length
    rw [hs,← c4,this];simp
   have hmc:(madeCells zv.cells (n.toNat * i.size)).toList = (List.replicate n.toNat zv.cells.toList).flatten:=by
    unfold madeCells;rw [← hzs];exact rep_cells _ _
   obtain ⟨σ',hse,hs',hr⟩:=hrel.alloc hid (drl_rep (svals_dr (G:=G) hsv) n.toNat).vrl (ones_rep (svals_ones hsv) n.toNat) sz e
   have hlen:(List.replicate n.toNat zv.cells.toList).flatten.length = n.toNat * sz:=by
    rw [← hmc,← hs];simp [madeCells]
   refine ⟨.slice (some ⟨w.heap.size,0,none⟩) m.toNat n.toNat,_,σ',.inl ?_,NC.alloc _ _,hse,hr,.ref hs' ?_ ?_⟩
   ·rw [run_exec_mksl ho, e1, e2, run_make w t e i zv hu hi hz .i64 .i64 m n c1 c2 (by rw [hb]; exact c3) c5]
    rw [← hmc];rfl
   ·omega
   ·simp only [hlen];omega
  ·cases ht
 ·cases hst
theorem elems_sound (hrel:Rel w0 G σ H D w) {sz:Nat} {x:V} {X:Value} (hx:VR G σ x X) {es:List V} {k:Nat} (he:elemsV sz H x = some (es,k)) (hsz:x≠x∨True) :
  ∃ A c vs,X = .slice A k c∧VRL G σ es vs∧Ones vs∧es.length = k * sz∧(k * sz = 0∨∃ b q,A = some ⟨b,q,none⟩∧∀ j y,vs[j]? = some y→w.cell? ⟨b,q+j,none⟩ = some y):=by
 unfold elemsV at he
 split at he
 ·split at he
  ·rename_i hl;cases he
   cases hx with
   | deep hd =>
    cases hd with
    | sl0 a' c=>exact ⟨a',c,[],rfl,by simpa using VRL.nil,(fun y hy=>by cases hy),by simp,.inl (by simp)⟩
    | sl hcl hg hc ho1 =>
     rename_i vs b q c
     refine ⟨some ⟨b,q,none⟩,c,vs.take (k * sz),rfl,hcl.vrl.take _,(fun y hy=>ho1 y (List.mem_of_mem_take hy)),by simp;omega,.inr ⟨b,q,rfl,fun j y hj=>?_⟩⟩
     rw [List.getElem?_take] at hj
     split at hj
     ·exact hrel.gok _ _ _ (hg _ _ hj)
     ·cases hj
  ·cases he
 ·cases he
  cases hx with
  | deep hd=>cases hd;exact ⟨none,0,[],rfl,.nil,(fun y hy=>by cases hy),by simp,.inl (by simp)⟩
 ·split at he
  ·rename_i ob hob
   split at he
   ·rename_i hc
    obtain ⟨hv,hl⟩:=hc
    cases he
    cases hx with
    | deep hd=>cases hd
    | ref0 hs=>exact ⟨none,0,[],rfl,by simpa using VRL.nil,(fun y hy=>by cases hy),by simp,.inl (by simp)⟩
    | ref hs hcc hN =>
     rename_i o' ver off _ c B
     subst hv
     rcases hrel.obs _ _ hob with ⟨B',hB',_,hOb⟩ | ⟨hn,_⟩ | ⟨_,_,_,_,hOb⟩
     rotate_left 2
     ·have h0 : k * sz = 0 := by rw [hOb.nil] at hl; simp only [List.length_nil] at hl; omega
      exact ⟨_,_,[],rfl,by rw [h0];simpa using VRL.nil,(fun y hy=>by cases hy),by simp [h0],.inl h0⟩
     ·rw [hs] at hB';cases hB'
      obtain ⟨cc,tt,hb,hNN,hll,hcl⟩:=hOb.blk
      obtain ⟨vs,hvs,hones,hf⟩:=cells_list (f:=fun i=>w.cell? ⟨B.b,off+i,none⟩) (l:=(ob.cells.drop off).take (k * sz)) (fun i u hu=>by
       obtain ⟨h1,_⟩:=take_get _ _ _ _ _ hu
       obtain ⟨y,hy,hr,h1'⟩:=hcl _ _ h1
       exact ⟨y,by simp [World.cell?,hb,hy],hr,h1'⟩)
      exact ⟨some ⟨B.b,off,none⟩,c,vs,rfl,hvs,hones,by simp;omega,.inr ⟨B.b,off,rfl,fun j y hj=>hf j y hj⟩⟩
     ·rw [hs] at hn;cases hn
   ·cases he
  ·cases he
 ·cases he
theorem run_exec_app {t u:TypeId} {S X:Operand} (ho:o.op = .call { callee:=.builtin .append,args:=#[S,X],argTypes:=#[t,u] }) :
  (execOp a.eval o).run P w = ((Builtin.append_ #[t,u] o.type #[a.eval S,a.eval X]).run P w).andThen fun v w'=>.ok (.value v) w':=by
 unfold execOp;simp only [ho,resolve,invoke,builtin,Sem.run_bind,Sem.run_pure,Result.andThen_ok,List.map_toArray,List.map_cons,List.map_nil]
theorem run_append_zero {t ty e:TypeId} {i:TypeInfo} (ht:P.underlying t = some (.slice e)) (hi:P.info? e = some i) (S:Option Addr) (n c:Nat) (hc:n≤c) (A:Option Addr) (c':Nat) :
  (Builtin.append_ #[t,t] ty #[.slice S n c,.slice A 0 c']).run P w = .ok (.slice S n c) w:=by
 have hf:(Builtin.firstCells i.size 0 (.slice A 0 c')).run P w = .ok #[] w:=by
  cases A <;> simp [Builtin.firstCells,loadCells,loadCellsFrom]
 cases S <;> simp [Builtin.append_,run_underlying ht,sizeOf,typeInfo,hi,Builtin.lenOf,hc,hf,storeCells]
theorem okAppT_some {t u:TypeId} {sz bytes:Nat} (h:okAppT P t u sz bytes = true):∃ e i z,t = u∧P.underlying t = some (.slice e)∧P.info? e = some i∧i.size = sz∧i.bytes = bytes∧0 < sz∧i.zero = some z∧z.cells.size = sz:=by
 unfold okAppT at h
 simp only [Bool.and_eq_true,beq_iff_eq] at h
 obtain ⟨rfl,h⟩:=h
 split at h
 ·rename_i e hu
  simp only [Bool.and_eq_true,decide_eq_true_eq] at h
  obtain ⟨⟨⟨h1,h2⟩,h3⟩,h4⟩:=h
  obtain ⟨i,hi,hs⟩:=sizeIs_some h1
  obtain ⟨i',hi',hb⟩:=bytesIs_some h2
  rw [hi] at hi';cases hi'
  simp only [hi] at h4
  split at h4
  ·rename_i z hz;exact ⟨e,i,z,rfl,hu,hi,hs,hb,h3,hz,by simpa using h4⟩
  ·cases h4
 ·cases h
theorem VRL.cellsA {cells:List V} {vs:List Value} (hv:VRL G σ cells vs) (h1:Ones vs) (E:Array Value) :
  ∀ (i:Nat) (v:V),cells[i]? = some v→∃ x:Value,(vs.toArray++E)[i]? = some x∧VR G σ v x∧x.oneCell' = true:=fun i v hi=>by
 rw [show vs.toArray++E = (vs++E.toList).toArray from by apply Array.ext';simp]
 exact hv.cells h1 E.toList i v hi
theorem s_app {t u:TypeId} {S X:Operand} {s x:Opd} {sz bytes:Nat} (ho:o.op = .call { callee:=.builtin .append,args:=#[S,X],argTypes:=#[t,u] }) (hrd:RdR G σ a rd) (h1:okOpd S s = true) (h2:okOpd X x = true)
  (ht:okAppT P t u sz bytes = true) (hid:¬ D id) (hrel:Rel w0 G σ H D w) (hst:stepOp (.app sz bytes s x) rd H id = some (v,H')):OpOut P o a w w0 G σ H' (fun o=>D o∨o = id) v:=by
 simp only [stepOp,Option.bind_eq_some_iff] at hst
 obtain ⟨p,hp,q,hq,hst⟩:=hst
 have e1:=hrd S s h1 _ hp
 have e2:=hrd X x h2 _ hq
 obtain ⟨e,i,z,rfl,hu,hi,rfl,rfl,hsz,hz,hzs⟩:=okAppT_some ht
 simp only [appV,Option.bind_eq_some_iff] at hst
 obtain ⟨⟨es,k⟩,he,hst⟩:=hst
 obtain ⟨A,c,vs,hX,hvs,hones,hlen,hread⟩:=elems_sound hrel e2 he (.inr trivial)
 have hvl:vs.length = k * i.size:=by rw [← hvs.length];exact hlen
 generalize hS:a.eval S = y at e1
 simp only at hst
 split at hst
 ·-- onto nil
  cases e1 with
  | deep hd =>
   cases hd
   by_cases hk:k = 0
   ·subst hk
    split at hst
    ·cases hst
     have hes:es = []:=List.length_eq_zero_iff.1 (by rw [hlen,Nat.zero_mul])
     subst hes
     obtain ⟨σ',hse,hz0,_,hR⟩:=hrel.adoptNil hid i.size 1 (by omega)
     refine ⟨.slice none 0 0,w,σ',.inl ?_,NC.refl _,hse,by simpa using hR,.ref0 hz0⟩
     rw [run_exec_app ho,hS,hX,run_append_zero hu hi none 0 0 (Nat.le_refl _)];rfl
    ·cases hst
   ·simp only [hk,if_false] at hst
    split at hst
    ·rename_i hby;cases hst
     rcases hread with h0 | ⟨b,q',rfl,hrd'⟩
     ·exfalso;rcases Nat.mul_eq_zero.1 h0 with h0 | h0 <;> omega
     ·obtain ⟨hby,hk62⟩:=hby
      have h63:(k:Int)≤9223372036854775807:=by omega
      have hr:=run_append_nil (P:=P) w t o.type e i z hu hi hz ⟨b,q',none⟩ k c vs hvl (fun j y hj=>by rw [add_none];exact hrd' j y hj) (by omega) h63 (by omega)
      have hg:=grownCap_ge w k 0 e
      obtain ⟨σ',hse,hs',hR⟩:=hrel.drew.alloc' hid (cells:=es) (arr:=vs.toArray++Builtin.zeroCells z.cells (grownCap w k 0 e - k))
       (hvs.cellsA hones _) (by simp [hvs.length]) i.size e
      refine ⟨.slice (some ⟨w.heap.size,0,none⟩) k (grownCap w k 0 e),_,σ',.inl ?_,NC.drewAlloc w _,hse,hR,.ref hs' hg ?_⟩
      ·rw [run_exec_app ho,hS,hX,hr];rfl
      ·simp only [Array.size_append,List.size_toArray,size_zeroCells,hzs,hvl,← Nat.add_mul]
       rw [Nat.add_sub_cancel' hg];omega
    ·cases hst
 ·split at hst
  ·rename_i o' ver off len _ ob hob
   split at hst
   ·rename_i hc
    obtain ⟨c1,c2,c3,c4,c5,c6,c7,c8⟩:=hc
    subst c1;subst c3
    have h63:((len+k:Nat):Int)≤9223372036854775807:=by omega
    rcases hrel.obs _ _ hob with ⟨B,hB,hlo,hOb⟩ | ⟨hN,hcs,hnl,hfz⟩ | ⟨_,_,_,_,hOb⟩
    rotate_left 2
    ·exact absurd c8 hOb.sp
    ·-- an object with a block
     cases e1 with
     | deep hd=>cases hd
     | ref0 hs=>rw [hB] at hs;cases hs
     | ref hs hcc hNN =>
      rename_i cap B2
      rw [hB] at hs;cases hs
      obtain ⟨cur,tt,hb,hNs,hll,hcl⟩:=hOb.blk
      have hBsz:B.sz = i.size:=by rw [← hOb.sz,c2]
      by_cases hk:k = 0
      ·subst hk;cases hst
       have hes:es = []:=List.length_eq_zero_iff.1 (by rw [hlen,Nat.zero_mul])
       subst hes
       obtain ⟨σ',hse,hs',hR⟩:=(hrel.trunc hob (len * i.size)).bump (o:=o') (ob:={ ob with cells:=ob.cells.take (len * i.size) }) (by simp [Hp.put]) hB
       have hput:∀ (x y:Ob),(H.put o' x).put o' y = H.put o' y:=fun x y=>by funext j;simp only [Hp.put];split <;> rfl
       simp only [hput] at hR
       refine ⟨.slice (some ⟨B.b,0,none⟩) len cap,w,σ',.inl ?_,NC.refl _,hse,?_,.ref hs' hcc hNN⟩
       ·rw [run_exec_app ho,hS,hX,run_append_zero hu hi _ len cap hcc];rfl
       ·simpa using hR.weaken fun _=>.inl
      ·simp only [hk,if_false] at hst
       cases hst
       rcases hread with h0 | ⟨b,q',rfl,hrd'⟩
       ·exfalso;rcases Nat.mul_eq_zero.1 h0 with h0 | h0 <;> omega
       ·have hnews : ∀ j y, vs[j]? = some y → w.cell? ((⟨b, q', none⟩ : Addr).add j) = some y := fun j y hj => by rw [add_none]; exact hrd' j y hj
        by_cases hroom:len+k≤cap
        ·-- in place
         have hcap:len * i.size+k * i.size≤cap * i.size:=by rw [← Nat.add_mul];exact Nat.mul_le_mul_right _ hroom
         have hfit:len * i.size+vs.length≤cur.size:=by rw [hvl];rw [hBsz] at hNN;omega
         have hf:=run_firstCells_some (P:=P) w i.size k ⟨b,q',none⟩ k c vs hvl hnews
         have hstc:=run_storeCells_at P B.b (len * i.size) tt vs 0 cur w hb (by simpa using hfit) hones
         simp only [Nat.add_zero] at hstc
         have hrun:(Builtin.append_ #[t,t] o.type #[.slice (some ⟨B.b,0,none⟩) len cap,.slice (some ⟨b,q',none⟩) k c]).run P w =
           .ok (.slice (some ⟨B.b,0,none⟩) (len+k) cap) (w.setRow B.b (cur.toList.take (len * i.size)++vs++cur.toList.drop (len * i.size+vs.length)).toArray):=by
          simp [Builtin.append_,run_underlying hu,sizeOf,typeInfo,hi,Builtin.lenOf,hroom,hf,add_none,hstc]
         have hw:=hrel.write hob hB hb (off:=len * i.size) c4 hvs hones hfit c5 rfl
         have hw2:=hw.trunc (o:=o') (ob:={ ob with cells:=ob.cells.take (len * i.size)++es++ob.cells.drop (len * i.size+es.length) }) (by simp [Hp.put]) (len * i.size+es.length)
         obtain ⟨σ',hse,hs',hw3⟩:=hw2.bump (o:=o') (ob:={ ob with cells:=(ob.cells.take (len * i.size)++es++ob.cells.drop (len * i.size+es.length)).take (len * i.size+es.length) }) (by simp [Hp.put]) hB
         have hput:∀ (x y:Ob),(H.put o' x).put o' y = H.put o' y:=fun x y=>by funext j;simp only [Hp.put];split <;> rfl
         have hcells:(ob.cells.take (len * i.size)++es++ob.cells.drop (len * i.size+es.length)).take (len * i.size+es.length) = ob.cells.take (len * i.size)++es:=by
          apply List.take_left'
          simp only [List.length_append,List.length_take];omega
         refine ⟨.slice (some ⟨B.b,0,none⟩) (len+k) cap,w.setRow B.b (cur.toList.take (len * i.size)++vs++cur.toList.drop (len * i.size+vs.length)).toArray,σ',.inl ?_,NC.setRow hb _,hse,?_,.ref hs' hroom hNN⟩
         ·rw [run_exec_app ho,hS,hX,hrun];rfl
         ·simp only [hput,hcells] at hw3
          have hw4:=hw3.unnil (o:=o') (ob:={ ob with cells:=ob.cells.take (len * i.size)++es,ver:=ob.ver+1 }) (by simp [Hp.put]) hs'
          simp only [hput] at hw4
          exact hw4.weaken fun _=>.inl
        ·-- a new block
         obtain ⟨olds,holds,hoo,hfo⟩:=cells_list (f:=fun j=>w.cell? ⟨B.b,0+j,none⟩) (l:=ob.cells.take (len * i.size)) (fun j u hu=>by
          rw [List.getElem?_take] at hu
          split at hu
          ·obtain ⟨y,hy,hr,h1'⟩:=hcl _ _ hu
           exact ⟨y,by simp [World.cell?,hb,hy],hr,h1'⟩
          ·cases hu)
         have hol:olds.length = len * i.size:=by rw [← holds.length];simp;omega
         have hrun:=run_append_grow (P:=P) w t o.type e i z hu hi hz ⟨B.b,0,none⟩ len cap olds hol (fun j y hj=>by rw [add_none];exact hfo j y hj) ⟨b,q',none⟩ k c vs hvl hnews (by omega) h63 (growslice_fits (by omega) c6)
         have hg:=grownCap_ge w (len+k) cap e
         obtain ⟨σ',hse,hs',hR⟩:=hrel.drew.move hob c8 (cells:=ob.cells.take (len * i.size)++es) (arr:=olds.toArray++vs.toArray++Builtin.zeroCells z.cells (grownCap w (len+k) cap e - (len+k)))
          (by rw [show olds.toArray++vs.toArray = (olds++vs).toArray from by simp];exact (holds.append hvs).cellsA (fun x hx=>by rcases List.mem_append.1 hx with hx | hx;exact hoo x hx;exact hones x hx) _)
          (by have:=holds.length;have:=hvs.length;simp at *;omega) e
         refine ⟨.slice (some ⟨w.heap.size,0,none⟩) (len+k) (grownCap w (len+k) cap e),_,σ',.inl ?_,NC.drewAlloc w _,hse,hR.weaken fun _=>.inl,.ref hs' hg ?_⟩
         ·rw [run_exec_app ho,hS,hX,hrun];rfl
         ·simp only [Array.size_append,List.size_toArray,size_zeroCells,hzs,hvl,hol,← Nat.add_mul]
          rw [Nat.add_sub_cancel' hg,c2];omega
    ·-- a nil slice
     cases e1 with
     | deep hd=>cases hd
     | ref hs _ _=>rw [hN] at hs;cases hs
     | ref0 hs =>
      by_cases hk:k = 0
      ·subst hk;cases hst
       have hes:es = []:=List.length_eq_zero_iff.1 (by rw [hlen,Nat.zero_mul])
       subst hes
       obtain ⟨σ',hse,hs',hR⟩:=hrel.bumpG hob hN
       refine ⟨.slice none 0 0,w,σ',.inl ?_,NC.refl _,hse,?_,.ref0 hs'⟩
       ·rw [run_exec_app ho,hS,hX,run_append_zero hu hi none 0 0 (Nat.le_refl _)];rfl
       ·have he : ({ ob with cells := ob.cells.take (0 * i.size) ++ [], ver := ob.ver + 1, nl := if (0 : Nat) = 0 then ob.nl else 0 } : Ob) = { ob with ver := ob.ver + 1 } := by simp [hcs]
        rw [he];exact hR.weaken fun _=>.inl
      ·simp only [hk,if_false] at hst
       cases hst
       rcases hread with h0 | ⟨b,q',rfl,hrd'⟩
       ·exfalso;rcases Nat.mul_eq_zero.1 h0 with h0 | h0 <;> omega
       ·simp only [Nat.zero_add,Nat.zero_mul,List.take_zero,List.nil_append] at *
        have hr:=run_append_nil (P:=P) w t o.type e i z hu hi hz ⟨b,q',none⟩ k c vs hvl (fun j y hj=>by rw [add_none];exact hrd' j y hj) (by omega) (by omega) (by omega)
        have hg:=grownCap_ge w k 0 e
        obtain ⟨σ',hse,hs',hR⟩:=hrel.drew.move hob c8 (cells:=es) (arr:=vs.toArray++Builtin.zeroCells z.cells (grownCap w k 0 e - k))
         (hvs.cellsA hones _) (by simp [hvs.length]) e
        refine ⟨.slice (some ⟨w.heap.size,0,none⟩) k (grownCap w k 0 e),_,σ',.inl ?_,NC.drewAlloc w _,hse,hR.weaken fun _=>.inl,.ref hs' hg ?_⟩
        ·rw [run_exec_app ho,hS,hX,hr];rfl
        ·simp only [Array.size_append,List.size_toArray,size_zeroCells,hzs,hvl,← Nat.add_mul]
         rw [Nat.add_sub_cancel' hg,c2];omega
   ·cases hst
  ·cases hst
 ·cases hst
theorem okCpyT_some {t u:TypeId} {sz:Nat} (h:okCpyT P t u sz = true):∃ e i,P.underlying t = some (.slice e)∧P.info? e = some i∧i.size = sz:=by
 unfold okCpyT at h
 split at h
 ·rename_i e e' hu hu'
  obtain ⟨i,hi,hs⟩:=sizeIs_some h
  exact ⟨e,i,hu,hi,hs⟩
 ·cases h
theorem run_exec_cpy {t u:TypeId} {S X:Operand} (ho:o.op = .call { callee:=.builtin .copy,args:=#[S,X],argTypes:=#[t,u] }) :
  (execOp a.eval o).run P w = ((Builtin.copy_ #[t,u] o.type #[a.eval S,a.eval X]).run P w).andThen fun v w'=>.ok (.value v) w':=by
 unfold execOp;simp only [ho,resolve,invoke,builtin,Sem.run_bind,Sem.run_pure,Result.andThen_ok,List.map_toArray,List.map_cons,List.map_nil]
theorem s_cpy {t u:TypeId} {S X:Operand} {s x:Opd} {sz:Nat} (ho:o.op = .call { callee:=.builtin .copy,args:=#[S,X],argTypes:=#[t,u] }) (hrd:RdR G σ a rd) (h1:okOpd S s = true) (h2:okOpd X x = true)
  (ht:okCpyT P t u sz = true) (hrel:Rel w0 G σ H D w) (hst:stepOp (.cpy sz s x) rd H id = some (v,H')):OpOut P o a w w0 G σ H' (fun o=>D o∨o = id) v:=by
 simp only [stepOp,Option.bind_eq_some_iff] at hst
 obtain ⟨p,hp,q,hq,hst⟩:=hst
 have e1:=hrd S s h1 _ hp
 have e2:=hrd X x h2 _ hq
 obtain ⟨e,i,hu,hi,rfl⟩:=okCpyT_some ht
 simp only [cpyV,Option.bind_eq_some_iff] at hst
 obtain ⟨⟨es,k⟩,he,hst⟩:=hst
 obtain ⟨A,c,vs,hX,hvs,hones,hlen,hread⟩:=elems_sound hrel e2 he (.inr trivial)
 have hvl:vs.length = k * i.size:=by rw [← hvs.length];exact hlen
 generalize hS:a.eval S = y at e1
 simp only at hst
 -- the first cells of what is copied
 have hfirst:∀ m,m≤k→(Builtin.firstCells i.size m (.slice A k c)).run P w = .ok (vs.take (m * i.size)).toArray w:=fun m hm=>by
  have hmk:m * i.size≤k * i.size:=Nat.mul_le_mul_right _ hm
  rcases hread with h0 | ⟨b,q',rfl,hrd'⟩
  ·have hm0 : m * i.size = 0 := by omega
   have:vs = []:=List.eq_nil_of_length_eq_zero (by omega)
   subst this
   cases A <;> simp [Builtin.firstCells,hm0,loadCells,loadCellsFrom]
  ·have hl:=run_loadCells_list (P:=P) w ⟨b,q',none⟩ (vs.take (m * i.size)) (fun j y hj=>by
    rw [add_none]
    rw [List.getElem?_take] at hj
    split at hj
    ·exact hrd' j y hj
    ·cases hj)
   have:(vs.take (m * i.size)).length = m * i.size:=by simp;omega
   rw [this] at hl
   simpa [Builtin.firstCells] using hl
 split at hst
 ·cases hst
  cases e1 with
  | deep hd =>
   cases hd
   refine out_same hrel (x:=.int .i64 0) ?_ (.deep (.int _ _))
   rw [run_exec_cpy ho,hS,hX]
   have:=hfirst 0 (Nat.zero_le _)
   simp only [Nat.zero_mul,List.take_zero] at this
   simp [Builtin.copy_,run_underlying hu,Builtin.lenOf,run_sizeOf' hi,this,goInt]
 ·split at hst
  ·rename_i o' ver off len _ ob hob
   split at hst
   ·rename_i hc
    obtain ⟨c1,c2,c3,c4,c5⟩:=hc
    subst c1
    cases hst
    rcases hrel.obs _ _ hob with ⟨B,hB,hlo,hOb⟩ | ⟨_,_,hnl,_⟩ | ⟨_,_,_,_,hOb⟩
    rotate_left 2
    ·exact absurd c5 hOb.sp
    ·cases e1 with
     | deep hd=>cases hd
     | ref0 hs=>rw [hB] at hs;cases hs
     | ref hs hcc hNN =>
      rename_i cap B2
      rw [hB] at hs;cases hs
      obtain ⟨cur,tt,hb,hNs,hll,hcl⟩:=hOb.blk
      have hmk:min k len * i.size≤k * i.size:=Nat.mul_le_mul_right _ (Nat.min_le_left _ _)
      have hml:min k len * i.size≤len * i.size:=Nat.mul_le_mul_right _ (Nat.min_le_right _ _)
      have htl:(vs.take (min k len * i.size)).length = min k len * i.size:=by simp;omega
      have hf:=hfirst (min k len) (Nat.min_le_left _ _)
      have hstc:=run_storeCells_at P B.b off tt (vs.take (min k len * i.size)) 0 cur w hb (by omega) (fun y hy=>hones y (List.mem_of_mem_take hy))
      simp only [Nat.add_zero] at hstc
      have hw := hrel.write hob hB hb (off := off) c2 (hvs.take (min k len * i.size)) (fun y hy => hones y (List.mem_of_mem_take hy)) (by omega) (by omega) (cells' := ob.cells.take off ++ es.take (min k len * i.size) ++ ob.cells.drop (off + min k len * i.size))
       (by rw [show (es.take (min k len * i.size)).length = min k len * i.size from by simp;omega])
      refine ⟨.int .i64 (min k len:Nat),_,σ,.inl ?_,NC.setRow hb _,SExt.refl _,hw.weaken fun _=>.inl,.deep (.int _ _)⟩
      rw [run_exec_cpy ho,hS,hX]
      have hmin:Nat.min k len = min k len:=rfl
      simp [Builtin.copy_,run_underlying hu,Builtin.lenOf,run_sizeOf' hi,hmin,hf,hstc,goInt]
    ·exact absurd c4 hnl
   ·cases hst
  ·cases hst
 ·cases hst
end
end Go.Dp
