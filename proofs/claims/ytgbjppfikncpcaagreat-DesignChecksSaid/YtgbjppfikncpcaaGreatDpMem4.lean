/- More operations: appends of zeros, bytes of strings, maps, loads apart. -/
import Derived.Test.YtgbjppfikncpcaaGreatDpSp
import Derived.MapKept
import Derived.ChangeKeysEq
namespace Go.Dp
open Go.RowKit
set_option linter.unusedSimpArgs false
set_option linter.unusedVariables false
section
variable {P:Program} {o:Oper} {a:Act} {w w0:World} {G:Gm} {σ:Sg} {H H':Hp} {D:Nat→Prop} {id:Nat} {rd:Opd→Option V} {v:V}
theorem intT_some {t:TypeId} (h:intT P t = true):∃ k,P.underlying t = some (.int k):=by
 unfold intT at h
 split at h
 ·rename_i k hu;exact ⟨k,hu⟩
 ·cases h
theorem zerosV_length (z:List V):∀ n,(zerosV z n).length = n * z.length
 | 0=>by simp [zerosV]
 | n+1=>by simp only [zerosV,List.length_append,zerosV_length z n,Nat.succ_mul];omega
theorem zeroCells_list (z:Array Value) (n:Nat):(Builtin.zeroCells z n).toList = (List.replicate n z.toList).flatten:=by
 unfold Builtin.zeroCells
 rw [Array.toList_map,Array.toList_range]
 induction n with
 | zero=>simp
 | succ n ih =>
  rw [Nat.succ_mul,List.range_add,List.map_append,ih,List.replicate_succ',List.flatten_append]
  congr 1
  simp only [List.map_map,List.flatten_cons,List.flatten_nil,List.append_nil]
  apply List.ext_getElem?
  intro i
  by_cases hi:i < z.size
  ·simp [hi,Nat.mul_add_mod_of_lt hi]
  ·simp [hi]
theorem zeros_drl {zl:List V} {z:Value} (h:DRL G zl z.cells.toList) (k:Nat):DRL G (zerosV zl k) (Builtin.zeroCells z.cells k).toList:=by
 rw [zeroCells_list];exact drl_rep h k
theorem zeros_ones {z:Value} (h:Ones z.cells.toList) (k:Nat):Ones (Builtin.zeroCells z.cells k).toList:=by
 rw [zeroCells_list]
 intro x hx
 obtain ⟨l,hl,hx⟩:=List.mem_flatten.1 hx
 rw [List.eq_of_mem_replicate hl] at hx
 exact h x hx
theorem wrap_len {k:Nat} (h:(k:Int)≤9223372036854775807):IntKind.i64.wrap (k:Int) = k:=by rw [IntKind.wrap_i64];omega
theorem run_appz_zero {t u ty e:TypeId} {i:TypeInfo} {kn:IntKind} (ht:P.underlying t = some (.slice e)) (hu:P.underlying u = some (.int kn)) (hi:P.info? e = some i) (ik:IntKind) (S:Option Addr) (n c:Nat) (hc:n≤c) :
  (Builtin.append_ #[t,u] ty #[.slice S n c,.int ik (0:Nat)]).run P w = .ok (.slice S n c) w:=by
 have hw:IntKind.i64.wrap 0 = 0:=by decide
 cases S <;> simp [Builtin.append_,run_underlying ht,run_underlying hu,sizeOf,typeInfo,hi,asInt,asIntOf,hc,storeCells,hw]
theorem run_appz_nil (w:World) (t u ty e:TypeId) (i:TypeInfo) (z:Value) (ik kn:IntKind) (ht:P.underlying t = some (.slice e)) (hu:P.underlying u = some (.int kn)) (hi:P.info? e = some i) (hz:i.zero = some z)
  (n:Nat) (h0:0 < n) (hs:0 < i.size) (h63:(n:Int)≤9223372036854775807) (h48:n * i.bytes≤281474976710656) :
  (Builtin.append_ #[t,u] ty #[.slice none 0 0,.int ik n]).run P w =
   .ok (.slice (some ⟨w.heap.size,0,none⟩) n (grownCap w n 0 e)) (w.drew.alloc (.cells (Builtin.zeroCells z.cells n++Builtin.zeroCells z.cells (grownCap w n 0 e - n)) e)):=by
 have hn:n≠0:=by omega
 have hw:=wrap_len h63
 have h63':¬ (9223372036854775807 < (n:Int)):=by omega
 have h48':¬ (281474976710656 < Builtin.nextslicecap n 0 * i.bytes):=by rw [nextslicecap_zero h0];omega
 have h48i:¬ (281474976710656 < (n:Int) * (i.bytes:Int)):=by
  rw [← Int.natCast_mul]
  omega
 have hneg:¬ ((n:Int) < 0):=by omega
 have hns:¬ (n * i.size = 0):=Nat.mul_ne_zero hn (by omega)
 simp [Builtin.append_,run_underlying ht,run_underlying hu,sizeOf,typeInfo,zeroValue,hi,hz,asInt,asIntOf,hw,hn,hneg,hns,h63',h48',h48i,Question.forced,run_firstCells_none,newRow,grownCap]
theorem run_appz_place {t u ty e:TypeId} {i:TypeInfo} {z:Value} {kn:IntKind} (ht:P.underlying t = some (.slice e)) (hu:P.underlying u = some (.int kn)) (hi:P.info? e = some i) (hz:i.zero = some z) (ik:IntKind)
  (b:Option Addr) (len cap n:Nat) (hn:n≠0) (hs:0 < i.size) (h63:(n:Int)≤9223372036854775807) (h48:n * i.bytes≤281474976710656) (hroom:len+n≤cap) {w':World}
  (hst:(match b with | some a=>(storeCells (a.add (len * i.size)) (Builtin.zeroCells z.cells n).toList).run P w | none=>.ok () w) = .ok () w') :
  (Builtin.append_ #[t,u] ty #[.slice b len cap,.int ik n]).run P w = .ok (.slice b (len+n) cap) w':=by
 have hw:=wrap_len h63
 have h48i:¬ (281474976710656 < (n:Int) * (i.bytes:Int)):=by
  rw [← Int.natCast_mul]
  omega
 have hneg:¬ ((n:Int) < 0):=by omega
 have hns:¬ (n * i.size = 0):=Nat.mul_ne_zero hn (by omega)
 cases b with
 | none=>simp at hst;subst hst;simp [Builtin.append_,run_underlying ht,run_underlying hu,sizeOf,typeInfo,zeroValue,hi,hz,asInt,asIntOf,hw,hn,hneg,hns,h48i,hroom]
 | some b=>simp [Builtin.append_,run_underlying ht,run_underlying hu,sizeOf,typeInfo,zeroValue,hi,hz,asInt,asIntOf,hw,hn,hneg,hns,h48i,hroom,hst]
theorem run_appz_grow (w:World) (t u ty e:TypeId) (i:TypeInfo) (z:Value) (ik kn:IntKind) (ht:P.underlying t = some (.slice e)) (hu:P.underlying u = some (.int kn)) (hi:P.info? e = some i) (hz:i.zero = some z)
  (b:Addr) (sLen sCap:Nat) (olds:List Value) (hlo:olds.length = sLen * i.size) (holds:∀ j v,olds[j]? = some v→w.cell? (b.add j) = some v)
  (n:Nat) (hn0:n≠0) (hs:0 < i.size) (hg:sCap < sLen+n) (h63:((sLen+n:Nat):Int)≤9223372036854775807) (h48:n * i.bytes≤281474976710656) (hfit:Builtin.nextslicecap (sLen+n) sCap * i.bytes≤281474976710656) :
  (Builtin.append_ #[t,u] ty #[.slice (some b) sLen sCap,.int ik n]).run P w =
   .ok (.slice (some ⟨w.heap.size,0,none⟩) (sLen+n) (grownCap w (sLen+n) sCap e))
    (w.drew.alloc (.cells (olds.toArray++Builtin.zeroCells z.cells n++Builtin.zeroCells z.cells (grownCap w (sLen+n) sCap e - (sLen+n))) e)):=by
 have hn:¬ (sLen+n≤sCap):=by omega
 have h63':¬ (9223372036854775807 < ((sLen:Int)+(n:Int))):=by omega
 have h48':¬ (281474976710656 < Builtin.nextslicecap (sLen+n) sCap * i.bytes):=by omega
 have hw:=wrap_len (k:=n) (by omega)
 have h48i:¬ (281474976710656 < (n:Int) * (i.bytes:Int)):=by
  rw [← Int.natCast_mul]
  omega
 have hneg:¬ ((n:Int) < 0):=by omega
 have hns:¬ (n * i.size = 0):=Nat.mul_ne_zero hn0 (by omega)
 have hfo:=run_firstCells_some (P:=P) w.drew i.size sLen b sLen sCap olds hlo (by simpa using holds)
 simp [Builtin.append_,run_underlying ht,run_underlying hu,sizeOf,typeInfo,zeroValue,hi,hz,asInt,asIntOf,hw,hn0,hneg,hns,hn,h63',h48',h48i,Question.forced,hfo,newRow,grownCap]
theorem s_appz {t u:TypeId} {S X:Operand} {s x:Opd} {sz bytes:Nat} {zl:List V} (ho:o.op = .call { callee:=.builtin .append,args:=#[S,X],argTypes:=#[t,u] }) (hrd:RdR G σ a rd) (h1:okOpd S s = true) (h2:okOpd X x = true)
  (ht:okAppzT P t u sz bytes zl = true) (hid:¬ D id) (hrel:Rel w0 G σ H D w) (hst:stepOp (.appz sz bytes zl s x) rd H id = some (v,H')):OpOut P o a w w0 G σ H' (fun o=>D o∨o = id) v:=by
 simp only [stepOp,Option.bind_eq_some_iff] at hst
 obtain ⟨p,hp,kk,⟨q,hq,hqi⟩,hst⟩:=hst
 have e1:=hrd S s h1 _ hp
 have e2:=hrd X x h2 _ hq
 simp only [okAppzT,Bool.and_eq_true] at ht
 obtain ⟨⟨ht,hut⟩,hzt⟩:=ht
 obtain ⟨e,i,z,_,hu,hi,rfl,rfl,hsz,hz,hzs⟩:=okAppT_some ht
 simp only [hu] at hzt
 obtain ⟨hzd,hzl⟩:DRL G zl z.cells.toList∧zl.length = i.size:=by
  unfold zeroIs at hzt
  rw [hi] at hzt
  simp only [hz] at hzt
  have:=svals_dr (G:=G) hzt
  exact ⟨this,by rw [this.length];simpa using hzs⟩
 have hzo:Ones z.cells.toList:=by
  unfold zeroIs at hzt
  rw [hi] at hzt
  simp only [hz] at hzt
  exact svals_ones hzt
 obtain ⟨kn,hun⟩:=intT_some hut
 obtain ⟨ik,hX⟩:∃ ik,a.eval X = .int ik kk:=by
  cases q <;> simp [vint?] at hqi
  rename_i ik n;subst hqi
  exact ⟨ik,e2.int_inv⟩
 unfold appzV at hst
 split at hst
 rotate_left 1
 ·cases hst
 rename_i hk0
 obtain ⟨k,rfl⟩:∃ k:Nat,kk = k:=⟨kk.toNat,by omega⟩
 simp only [Int.toNat_natCast] at hst
 obtain ⟨es,hes⟩:∃ es,es = zerosV zl k:=⟨_,rfl⟩
 rw [← hes] at hst
 obtain ⟨vs,hvsd⟩:∃ vs,vs = (Builtin.zeroCells z.cells k).toList:=⟨_,rfl⟩
 have hvs:VRL G σ es vs:=by rw [hes,hvsd];exact (zeros_drl hzd k).vrl
 have hones:Ones vs:=by rw [hvsd];exact zeros_ones hzo k
 have hlen:es.length = k * i.size:=by rw [hes,zerosV_length,hzl]
 have hvl:vs.length = k * i.size:=by rw [← hvs.length];exact hlen
 have hva:vs.toArray = Builtin.zeroCells z.cells k:=by rw [hvsd]
 generalize hS:a.eval S = y at e1
 split at hst
 ·-- onto nil
  cases e1 with
  | deep hd =>
   cases hd
   by_cases hk:k = 0
   ·subst hk
    split at hst
    ·cases hst
     have hes:es = []:=List.length_eq_zero_iff.1 (by rw [hlen,Nat.zero_mul])
     subst hes
     obtain ⟨σ',hse,hz0,_,hR⟩:=hrel.adoptNil hid i.size 1 (by omega)
     refine ⟨.slice none 0 0,w,σ',.inl ?_,NC.refl _,hse,by simpa using hR,.ref0 hz0⟩
     rw [run_exec_app ho,hS,hX,run_appz_zero hu hun hi ik none 0 0 (Nat.le_refl _)];rfl
    ·cases hst
   ·simp only [hk,if_false] at hst
    split at hst
    ·rename_i hby;cases hst
     ·obtain ⟨hby,hk62⟩:=hby
      have h63:(k:Int)≤9223372036854775807:=by omega
      have hr:=run_appz_nil (P:=P) w t u o.type e i z ik kn hu hun hi hz k (by omega) hsz h63 (by omega)
      rw [← hva] at hr
      have hg:=grownCap_ge w k 0 e
      obtain ⟨σ',hse,hs',hR⟩:=hrel.drew.alloc' hid (cells:=es) (arr:=vs.toArray++Builtin.zeroCells z.cells (grownCap w k 0 e - k))
       (hvs.cellsA hones _) (by simp [hvs.length]) i.size e
      refine ⟨.slice (some ⟨w.heap.size,0,none⟩) k (grownCap w k 0 e),_,σ',.inl ?_,NC.drewAlloc w _,hse,hR,.ref hs' hg ?_⟩
      ·rw [run_exec_app ho,hS,hX,hr];rfl
      ·simp only [Array.size_append,List.size_toArray,size_zeroCells,hzs,hvl,← Nat.add_mul]
       rw [Nat.add_sub_cancel' hg];omega
    ·cases hst
 ·split at hst
  ·rename_i o' ver off len _ ob hob
   split at hst
   ·rename_i hc
    obtain ⟨c1,c2,c3,c4,c5,c6,c7,c8⟩:=hc
    subst c1;subst c3
    have h63:((len+k:Nat):Int)≤9223372036854775807:=by omega
    rcases hrel.obs _ _ hob with ⟨B,hB,hlo,hOb⟩ | ⟨hN,hcs,hnl,hfz⟩ | ⟨_,_,_,_,hOb⟩
    rotate_left 2
    ·exact absurd c8 hOb.sp
    ·-- an object with a block
     cases e1 with
     | deep hd=>cases hd
     | ref0 hs=>rw [hB] at hs;cases hs
     | ref hs hcc hNN =>
      rename_i cap B2
      rw [hB] at hs;cases hs
      obtain ⟨cur,tt,hb,hNs,hll,hcl⟩:=hOb.blk
      have hBsz:B.sz = i.size:=by rw [← hOb.sz,c2]
      by_cases hk:k = 0
      ·subst hk;cases hst
       have hes:es = []:=List.length_eq_zero_iff.1 (by rw [hlen,Nat.zero_mul])
       subst hes
       obtain ⟨σ',hse,hs',hR⟩:=(hrel.trunc hob (len * i.size)).bump (o:=o') (ob:={ ob with cells:=ob.cells.take (len * i.size) }) (by simp [Hp.put]) hB
       have hput:∀ (x y:Ob),(H.put o' x).put o' y = H.put o' y:=fun x y=>by funext j;simp only [Hp.put];split <;> rfl
       simp only [hput] at hR
       refine ⟨.slice (some ⟨B.b,0,none⟩) len cap,w,σ',.inl ?_,NC.refl _,hse,?_,.ref hs' hcc hNN⟩
       ·rw [run_exec_app ho,hS,hX,run_appz_zero hu hun hi ik _ len cap hcc];rfl
       ·simpa using hR.weaken fun _=>.inl
      ·simp only [hk,if_false] at hst
       cases hst
       ·by_cases hroom:len+k≤cap
        ·-- in place
         have hcap:len * i.size+k * i.size≤cap * i.size:=by rw [← Nat.add_mul];exact Nat.mul_le_mul_right _ hroom
         have hfit:len * i.size+vs.length≤cur.size:=by rw [hvl];rw [hBsz] at hNN;omega
         have hstc:=run_storeCells_at P B.b (len * i.size) tt vs 0 cur w hb (by simpa using hfit) hones
         simp only [Nat.add_zero] at hstc
         have hrun:(Builtin.append_ #[t,u] o.type #[.slice (some ⟨B.b,0,none⟩) len cap,.int ik k]).run P w =
           .ok (.slice (some ⟨B.b,0,none⟩) (len+k) cap) (w.setRow B.b (cur.toList.take (len * i.size)++vs++cur.toList.drop (len * i.size+vs.length)).toArray):=by
          have hkb:k * i.bytes≤(len+k) * i.bytes:=Nat.mul_le_mul_right _ (by omega)
          have := run_appz_place (P := P) (w := w) (ty := o.type) hu hun hi hz ik (some ⟨B.b, 0, none⟩) len cap k hk hsz (by omega) (by omega) hroom (w' := w.setRow B.b (cur.toList.take (len * i.size) ++ vs ++ cur.toList.drop (len * i.size + vs.length)).toArray) (by
           simp only [← hvsd,add_none]
           simpa using hstc)
          simpa using this
         have hw:=hrel.write hob hB hb (off:=len * i.size) c4 hvs hones hfit c5 rfl
         have hw2:=hw.trunc (o:=o') (ob:={ ob with cells:=ob.cells.take (len * i.size)++es++ob.cells.drop (len * i.size+es.length) }) (by simp [Hp.put]) (len * i.size+es.length)
         obtain ⟨σ',hse,hs',hw3⟩:=hw2.bump (o:=o') (ob:={ ob with cells:=(ob.cells.take (len * i.size)++es++ob.cells.drop (len * i.size+es.length)).take (len * i.size+es.length) }) (by simp [Hp.put]) hB
         have hput:∀ (x y:Ob),(H.put o' x).put o' y = H.put o' y:=fun x y=>by funext j;simp only [Hp.put];split <;> rfl
         have hcells:(ob.cells.take (len * i.size)++es++ob.cells.drop (len * i.size+es.length)).take (len * i.size+es.length) = ob.cells.take (len * i.size)++es:=by
          apply List.take_left'
          simp only [List.length_append,List.length_take];omega
         refine ⟨.slice (some ⟨B.b,0,none⟩) (len+k) cap,w.setRow B.b (cur.toList.take (len * i.size)++vs++cur.toList.drop (len * i.size+vs.length)).toArray,σ',.inl ?_,NC.setRow hb _,hse,?_,.ref hs' hroom hNN⟩
         ·rw [run_exec_app ho,hS,hX,hrun];rfl
         ·simp only [hput,hcells] at hw3
          have hw4:=hw3.unnil (o:=o') (ob:={ ob with cells:=ob.cells.take (len * i.size)++es,ver:=ob.ver+1 }) (by simp [Hp.put]) hs'
          simp only [hput] at hw4
          exact hw4.weaken fun _=>.inl
        ·-- a new block
         obtain ⟨olds,holds,hoo,hfo⟩:=cells_list (f:=fun j=>w.cell? ⟨B.b,0+j,none⟩) (l:=ob.cells.take (len * i.size)) (fun j u hu=>by
          rw [List.getElem?_take] at hu
          split at hu
          ·obtain ⟨y,hy,hr,h1'⟩:=hcl _ _ hu
           exact ⟨y,by simp [World.cell?,hb,hy],hr,h1'⟩
          ·cases hu)
         have hol:olds.length = len * i.size:=by rw [← holds.length];simp;omega
         have hkb:k * i.bytes≤(len+k) * i.bytes:=Nat.mul_le_mul_right _ (by omega)
         have hrun:=run_appz_grow (P:=P) w t u o.type e i z ik kn hu hun hi hz ⟨B.b,0,none⟩ len cap olds hol (fun j y hj=>by rw [add_none];exact hfo j y hj) k hk hsz (by omega) h63 (by omega) (growslice_fits (by omega) c6)
         rw [← hva] at hrun
         have hg:=grownCap_ge w (len+k) cap e
         obtain ⟨σ',hse,hs',hR⟩:=hrel.drew.move hob c8 (cells:=ob.cells.take (len * i.size)++es) (arr:=olds.toArray++vs.toArray++Builtin.zeroCells z.cells (grownCap w (len+k) cap e - (len+k)))
          (by rw [show olds.toArray++vs.toArray = (olds++vs).toArray from by simp];exact (holds.append hvs).cellsA (fun x hx=>by rcases List.mem_append.1 hx with hx | hx;exact hoo x hx;exact hones x hx) _)
          (by have:=holds.length;have:=hvs.length;simp at *;omega) e
         refine ⟨.slice (some ⟨w.heap.size,0,none⟩) (len+k) (grownCap w (len+k) cap e),_,σ',.inl ?_,NC.drewAlloc w _,hse,hR.weaken fun _=>.inl,.ref hs' hg ?_⟩
         ·rw [run_exec_app ho,hS,hX,hrun];rfl
         ·simp only [Array.size_append,List.size_toArray,size_zeroCells,hzs,hvl,hol,← Nat.add_mul]
          rw [Nat.add_sub_cancel' hg,c2];omega
    ·-- a nil slice
     cases e1 with
     | deep hd=>cases hd
     | ref hs _ _=>rw [hN] at hs;cases hs
     | ref0 hs =>
      by_cases hk:k = 0
      ·subst hk;cases hst
       have hes:es = []:=List.length_eq_zero_iff.1 (by rw [hlen,Nat.zero_mul])
       subst hes
       obtain ⟨σ',hse,hs',hR⟩:=hrel.bumpG hob hN
       refine ⟨.slice none 0 0,w,σ',.inl ?_,NC.refl _,hse,?_,.ref0 hs'⟩
       ·rw [run_exec_app ho,hS,hX,run_appz_zero hu hun hi ik none 0 0 (Nat.le_refl _)];rfl
       ·have he : ({ ob with cells := ob.cells.take (0 * i.size) ++ [], ver := ob.ver + 1, nl := if (0 : Nat) = 0 then ob.nl else 0 } : Ob) = { ob with ver := ob.ver + 1 } := by simp [hcs]
        rw [he];exact hR.weaken fun _=>.inl
      ·simp only [hk,if_false] at hst
       cases hst
       ·simp only [Nat.zero_add,Nat.zero_mul,List.take_zero,List.nil_append] at c4 c5 c6 c7 h63 ⊢
        have hr:=run_appz_nil (P:=P) w t u o.type e i z ik kn hu hun hi hz k (by omega) hsz (by omega) (by omega)
        rw [← hva] at hr
        have hg:=grownCap_ge w k 0 e
        obtain ⟨σ',hse,hs',hR⟩:=hrel.drew.move hob c8 (cells:=es) (arr:=vs.toArray++Builtin.zeroCells z.cells (grownCap w k 0 e - k))
         (hvs.cellsA hones _) (by simp [hvs.length]) e
        refine ⟨.slice (some ⟨w.heap.size,0,none⟩) k (grownCap w k 0 e),_,σ',.inl ?_,NC.drewAlloc w _,hse,hR.weaken fun _=>.inl,.ref hs' hg ?_⟩
        ·rw [run_exec_app ho,hS,hX,hr];rfl
        ·simp only [Array.size_append,List.size_toArray,size_zeroCells,hzs,hvl,← Nat.add_mul]
         rw [Nat.add_sub_cancel' hg,c2];omega
   ·cases hst
  ·cases hst
 ·cases hst
theorem s_loadx {t:TypeId} {X:Operand} {x:Opd} {n:Option Nat} {bs:List Nat} (ho:o.op = .load t X) (hrd:RdR G σ a rd) (h1:okOpd X x = true) (ht:okShape P t n = true) (hrel:Rel w0 G σ H D w)
  (hst:stepOp (.loadx n x bs) rd H id = some (v,H')):OpOut P o a w w0 G σ H' (fun o=>D o∨o = id) v:=by
 refine s_load ho hrd h1 ht hrel (id:=id) ?_
 simp only [stepOp,Option.bind_eq_some_iff] at hst ⊢
 obtain ⟨p,hp,hst⟩:=hst
 split at hst
 ·simp only [Option.bind_eq_some_iff,Option.map_eq_some_iff] at hst ⊢
  obtain ⟨c,hc,u,hu,e⟩:=hst
  exact ⟨c,⟨p,hp,hc⟩,u,hu,e⟩
 ·cases hst
theorem s_sidx {t:TypeId} {X I:Operand} {x i:Opd} (ho:o.op = .index t X I) (hrd:RdR G σ a rd) (h1:okOpd X x = true) (h2:okOpd I i = true) (hu:P.underlying t = some .string) (hrel:Rel w0 G σ H D w)
  (hst:stepOp (.sidx x i) rd H id = some (v,H')):OpOut P o a w w0 G σ H' (fun o=>D o∨o = id) v:=by
 simp only [stepOp,Option.bind_eq_some_iff] at hst
 obtain ⟨s,⟨p,hp,hs⟩,n,⟨q,hq,hn⟩,hst⟩:=hst
 have e1:=hrd X x h1 _ hp
 have e2:=hrd I i h2 _ hq
 cases p <;> simp [asS] at hs
 subst hs
 cases q <;> simp [vint?] at hn
 subst hn
 have hX:=e1.str_inv
 have hI:=e2.int_inv
 split at hst
 ·rename_i h0
  simp only [Option.map_eq_some_iff,Prod.mk.injEq] at hst
  obtain ⟨b,hb,rfl,rfl⟩:=hst
  refine out_same hrel (x:=.int .u8 b.toNat) ?_ (.deep (.int _ _))
  unfold execOp
  simp only [ho,Instr.index,hX,hI,asIntOf,Sem.run_bind,Sem.run_pure,run_underlying hu,Result.andThen_ok,h0,if_true,hb]
 ·cases hst
def KeyD (d:TypeDesc):Nat→Prop
 | 0=>∃ i,d = .int i
 | 1=>d = .string
 | 2=>d = .bool
 | _=>False
theorem okKeyT_some {kd:Nat} {t:TypeId} (h:okKeyT P kd t = true):∃ d,P.underlying t = some d∧KeyD d kd:=by
 unfold okKeyT at h
 split at h
 ·rename_i i hu;exact ⟨_,hu,i,rfl⟩
 ·rename_i hu;exact ⟨_,hu,rfl⟩
 ·rename_i hu;exact ⟨_,hu,rfl⟩
 ·cases h
theorem s_mkm {t:TypeId} (ho:o.op = .makeMap t none) (hid:¬ D id) (hrel:Rel w0 G σ H D w)
  (hst:stepOp .mkm rd H id = some (v,H')):OpOut P o a w w0 G σ H' (fun o=>D o∨o = id) v:=by
 simp only [stepOp,Option.some.injEq,Prod.mk.injEq] at hst
 obtain ⟨rfl,rfl⟩:=hst
 obtain ⟨σ',hse,hs',hR⟩:=hrel.allocSp hid (ob:={ cells:=[],sz:=0,sp:=2 }) rfl (obj:=.map #[] 0) (fun σ' _=>.map ⟨rfl,rfl⟩ rfl (by simpa using VRL.nil))
 refine ⟨.map (some w.heap.size),_,σ',.inl ?_,NC.alloc _ _,hse,hR,.mp hs'⟩
 unfold execOp
 rw [ho]
 rfl
theorem keyEq_now {kd:Nat} {x k:V} {X K:Value} {d:TypeDesc} {b:Bool} (hd:KeyD d kd) (hx:VR G σ x X) (hk:VR G σ k K) (h:keyEq kd x k = some b):Instr.sameNow d X K = some b:=by
 unfold keyEq at h
 split at h
 ·split at h
  ·rename_i he;subst he;cases h
   rw [hx.int_inv,hk.int_inv]
   obtain ⟨i,rfl⟩:=hd
   simp [Instr.sameNow]
  ·cases h
 ·cases h
  rw [hx.str_inv,hk.str_inv]
  cases (hd:d = .string)
  simp [Instr.sameNow]
 ·cases h
  rw [hx.bool_inv,hk.bool_inv]
  cases (hd:d = .bool)
  simp [Instr.sameNow]
 ·cases h
theorem findV_sound {kd:Nat} {k:V} {K:Value} {d:TypeDesc} (hd:KeyD d kd) (hk:VR G σ k K):∀ {es:List (V × V)} {l:List MapEntry} {n:Nat} {r:Option (Nat × V)},VRL G σ (es.flatMap fun e=>[e.1,e.2]) (l.flatMap fun e=>[e.key,e.val])→findV kd k es n = some r →
  ∃ R,Instr.findNow d K l n = some R∧(match r,R with | none,none=>True | some (i,v),some (j,x)=>i = j∧VR G σ v x∧n≤i∧i - n < l.length∧∃ e,l[i - n]? = some e∧Instr.sameNow d K e.key = some true | _,_=>False)
 | [],l,n,r,hv,h=>by
  simp [findV] at h;subst h
  cases l with
  | nil=>exact ⟨none,rfl,trivial⟩
  | cons e l=>simp at hv;cases hv
 | e::es,l,n,r,hv,h=>by
  cases l with
  | nil=>simp at hv;cases hv
  | cons m l =>
   simp only [List.flatMap_cons,List.cons_append,List.nil_append] at hv
   cases hv with
   | cons h1 hv =>
    cases hv with
    | cons h2 hv =>
     simp only [findV,Option.bind_eq_some_iff] at h
     obtain ⟨b,hb,h⟩:=h
     have hs:=keyEq_now hd hk h1 hb
     cases b with
     | true =>
      simp at h;subst h
      exact ⟨some (n,m.val),by simp [Instr.findNow,hs],rfl,h2,Nat.le_refl _,by simp,m,by simp,hs⟩
     | false =>
      simp at h
      obtain ⟨R,hR,hm⟩:=findV_sound hd hk hv h
      refine ⟨R,by simp [Instr.findNow,hs,hR],?_⟩
      cases r with
      | none=>cases R with
       | none=>exact trivial
       | some q=>exact hm
      | some p =>
       cases R with
       | none=>exact hm
       | some q =>
        obtain ⟨c1,c2,c3,c4,e',c5,c6⟩:=hm
        refine ⟨c1,c2,by omega,by simp;omega,e',?_,c6⟩
        rw [show p.1 - n = (p.1 - (n+1))+1 from by omega]
        simpa using c5
theorem run_checkKey' {kd:Nat} {kt:TypeId} {d:TypeDesc} (hd:KeyD d kd) (hu:P.underlying kt = some d) (e:Bool) (k:Value):(Instr.checkKey e 10000 kt k).run P w = .ok () w:=by
 unfold Instr.checkKey
 simp only [Sem.run_bind,run_underlying hu,Result.andThen]
 match kd,hd with
 | 0,hd=>obtain ⟨i,rfl⟩:=hd;rfl
 | 1,hd=>cases (hd:d = .string);rfl
 | 2,hd=>cases (hd:d = .bool);rfl
theorem run_getObj_map {r:Nat} {es:Array MapEntry} {c:Nat} (h:w.heap[r]? = some (.map es c)):(getObj r).run P w = .ok (.map es c) w:=by simp [getObj,Sem.run,h]
theorem map_obj (hrel:Rel w0 G σ H D w) {o:Nat} {M:Value} (hm:VR G σ (.mp o) M) {ob:Ob} (ho:H o = some ob) (hsp:ob.sp = 2∧ob.nl = 0) :
  ∃ B l c,M = .map (some B.b)∧σ o 0 = some (some B)∧σ o ob.ver = some (some B)∧w0.heap.size≤B.b∧w.heap[B.b]? = some (.map l c)∧ob.cells = []∧VRL G σ (ob.mp.flatMap fun e=>[e.1,e.2]) (l.toList.flatMap fun e=>[e.key,e.val]):=by
 cases hm with
 | deep hm=>cases hm
 | mp hs =>
  rename_i B
  rcases hrel.obs _ _ ho with ⟨B2,hB2,_,hob⟩ | ⟨hN,hcs,hnl,hfz⟩ | ⟨B2,hB2,hB20,hlo,obj,hb,hob⟩
  ·have:=hob.sp;omega
  ·exact absurd hsp.2 hnl
  ·rw [hs] at hB20;cases hB20
   cases hob with
   | loop h2=>omega
   | map h2 hc hm=>exact ⟨_,_,_,rfl,hs,hB2,hlo,hb,hc,hm⟩
theorem run_findKey' {kt:TypeId} {d:TypeDesc} {k:Value} {l:List MapEntry} {r:Option (Nat × Value)} (hd:P.underlying kt = some d) (h:Instr.findNow d k l 0 = some r):(Instr.findKey kt k l).run P w = .ok r w:=by
 simp [Instr.findKey,run_underlying hd,Result.andThen,h]
def lkTail (kt e:TypeId) (K:Value) (ok:Bool) (es:Array MapEntry):Sem Value:=do
 Instr.checkKey es.isEmpty 10000 kt K
 let (v,b) ← match ← Instr.findKey kt K es.toList with
  | some (_,v)=>pure (v,true)
  | none=>pure (← zeroValue e,false)
 pure (if ok then .tuple #[v,.bool b] else v)
theorem lk_nil {t kt e:TypeId} (hut:P.underlying t = some (.map kt e)) (K:Value) (ok:Bool):(Instr.lookup t (.map none) K ok).run P w = (lkTail kt e K ok #[]).run P w:=by
 simp only [Instr.lookup,Sem.run_bind,run_underlying hut,Result.andThen_ok,lkTail,Sem.run_pure]
 rfl
theorem lk_map {t kt e:TypeId} (hut:P.underlying t = some (.map kt e)) (K:Value) (ok:Bool) {r:Nat} {l:Array MapEntry} {c:Nat} (hb:w.heap[r]? = some (.map l c)):(Instr.lookup t (.map (some r)) K ok).run P w = (lkTail kt e K ok l).run P w:=by
 simp only [Instr.lookup,Sem.run_bind,run_underlying hut,Result.andThen_ok,lkTail,Sem.run_pure,run_getObj_map hb]
 rfl
theorem s_lkp {t:TypeId} {M K:Operand} {m k:Opd} {kd:Nat} {z:V} {ok:Bool} (ho:o.op = .lookup t M K ok) (hrd:RdR G σ a rd) (h1:okOpd M m = true) (h2:okOpd K k = true) (ht:okLkpT P kd t z = true) (hrel:Rel w0 G σ H D w)
  (hst:stepOp (.lkp kd z ok m k) rd H id = some (v,H')):OpOut P o a w w0 G σ H' (fun o=>D o∨o = id) v:=by
 simp only [stepOp,Option.bind_eq_some_iff,Option.map_eq_some_iff,Prod.mk.injEq] at hst
 obtain ⟨p,hp,q,hq,u,hu,rfl,rfl⟩:=hst
 have e1:=hrd M m h1 _ hp
 have e2:=hrd K k h2 _ hq
 unfold okLkpT at ht
 split at ht
 ·rename_i kt e hut
  simp only [Bool.and_eq_true] at ht
  obtain ⟨hkt,ht⟩:=ht
  obtain ⟨d,hd,hkd⟩:=okKeyT_some hkt
  split at ht
  ·rename_i i hi
   split at ht
   ·rename_i zv hz
    have hzd:VR G σ z zv:=.deep (valIs_dr ht)
    have hzr:(zeroValue e).run P w = .ok zv w:=run_zeroValue' hi hz
    simp only [lkpV,Option.bind_eq_some_iff,Option.map_eq_some_iff] at hu
    obtain ⟨es,hes,r,hr,hu⟩:=hu
    obtain ⟨l,hl,hlr⟩:∃ l:Array MapEntry,(Instr.lookup t (a.eval M) (a.eval K) ok).run P w = (lkTail kt e (a.eval K) ok l).run P w∧VRL G σ (es.flatMap fun e=>[e.1,e.2]) (l.toList.flatMap fun e=>[e.key,e.val]):=by
     unfold mapOf at hes
     split at hes
     ·cases hes
      cases e1 with | deep e1=>generalize a.eval M = MM at e1;cases e1;exact ⟨#[],lk_nil hut _ _,by simpa using VRL.nil⟩
     ·split at hes
      ·rename_i o' ob hob
       split at hes
       ·rename_i hsp
        cases hes
        obtain ⟨B,l,c,hM,_,_,_,hb,_,hv⟩:=map_obj hrel e1 hob hsp
        exact ⟨l,by rw [hM];exact lk_map hut _ _ hb,hv⟩
       ·cases hes
      ·cases hes
     ·cases hes
    obtain ⟨R,hR,hm⟩:=findV_sound hkd e2 hlr hr
    have fin:∀ (x:Value) (b:Bool) (y:V),(lkTail kt e (a.eval K) ok l).run P w = .ok (if ok then .tuple #[x,.bool b] else x) w→VR G σ y x→(if ok = true then V.tup [y,.bool b] else y) = u→OpOut P o a w w0 G σ H (fun o=>D o∨o = id) u:=by
     intro x b y h1 h2 h3
     refine out_same hrel (x:=if ok then .tuple #[x,.bool b] else x) ?_ ?_
     ·unfold execOp
      simp only [ho,Sem.run_bind,hl,h1,Result.andThen_ok,Sem.run_pure]
     ·rw [← h3]
      cases ok with
      | true=>exact VR.tup (vs:=[x,.bool b]) (.cons h2 (.cons (.deep (.bool _)) .nil))
      | false=>exact h2
    cases r with
    | none=>cases R with
     | none=>exact fin zv false z (by simp only [lkTail,Sem.run_bind,run_checkKey' hkd hd,run_findKey' hd hR,Result.andThen_ok,hzr,Sem.run_pure]) hzd (by simpa using hu)
     | some q=>exact hm.elim
    | some p'=>cases R with
     | none=>exact hm.elim
     | some q'=>exact fin q'.2 true p'.2 (by simp only [lkTail,Sem.run_bind,run_checkKey' hkd hd,run_findKey' hd hR,Result.andThen_ok,Sem.run_pure]) hm.2.1 (by simpa using hu)
   ·cases ht
  ·cases ht
 ·cases ht
theorem run_setObj_map' {r:Nat} {es:Array MapEntry} {c:Nat} (o:Obj) (hb:w.heap[r]? = some (.map es c)):(setObj r o).run P w = .ok () (w.putObj r o):=by
 simp [setObj,Sem.run,hb,World.putObj]
theorem sameBits_key {kd:Nat} {d:TypeDesc} (hd:KeyD d kd) {x y:Value} (h:Instr.sameNow d x y = some true):Instr.sameBits 10000 x y = true∧x = y:=by
 match kd,hd with
 | 0,hd =>
  obtain ⟨i,rfl⟩:=hd
  unfold Instr.sameNow at h
  split at h
  ·split at h
   ·rename_i he;subst he;simp at h;subst h;simp [Instr.sameBits]
   ·cases h
  ·rename_i h2;cases h2
  ·rename_i h2;cases h2
  ·cases h
 | 1,hd =>
  cases (hd:d = .string)
  unfold Instr.sameNow at h
  split at h
  ·rename_i h2;cases h2
  ·simp [MapKept.bytes_beq] at h;subst h;simp [Instr.sameBits,MapKept.bytes_beq]
  ·rename_i h2;cases h2
  ·cases h
 | 2,hd =>
  cases (hd:d = .bool)
  unfold Instr.sameNow at h
  split at h
  ·rename_i h2;cases h2
  ·rename_i h2;cases h2
  ·simp at h;subst h;simp [Instr.sameBits]
  ·cases h
theorem VRL.flat_set {k x:V} {K X:Value} (hk:VR G σ k K) (hx:VR G σ x X):∀ {es:List (V × V)} {l:List MapEntry} (i:Nat),i < l.length→VRL G σ (es.flatMap fun e=>[e.1,e.2]) (l.flatMap fun e=>[e.key,e.val]) →
  VRL G σ ((es.take i++(k,x)::es.drop (i+1)).flatMap fun e=>[e.1,e.2]) ((l.modify i fun e=>{ e with key:=K,val:=X }).flatMap fun e=>[e.key,e.val])
 | [],[],i,hi,_=>by simp at hi
 | [],m::l,i,_,h=>by simp at h;cases h
 | e::es,[],i,_,h=>by simp at h;cases h
 | e::es,m::l,0,_,h=>by
  simp only [List.flatMap_cons,List.cons_append,List.nil_append] at h
  cases h with
  | cons h1 h=>cases h with
   | cons h2 h=>simpa using VRL.cons hk (.cons hx h)
 | e::es,m::l,i+1,hi,h=>by
  simp only [List.flatMap_cons,List.cons_append,List.nil_append] at h
  cases h with
  | cons h1 h=>cases h with
   | cons h2 h=>simpa using VRL.cons h1 (.cons h2 (VRL.flat_set hk hx i (by simpa using hi) h))
theorem NC.putMap {b:Nat} {es:Array MapEntry} {c:Nat} (h:w.heap[b]? = some (.map es c)) (o:Obj):NC w (w.putObj b o):=by
 refine ⟨by simp,fun k o' e hc=>?_,fun k r e=>?_⟩
 ·have : k ≠ b := fun e2 => by rw [e2, h] at e; cases e; cases hc
  rw [World.putObj_heap_other this];exact e
 ·have : k ≠ b := fun e2 => by rw [e2, h] at e; cases e
  exact ⟨r.state,r.pending,by rw [World.putObj_heap_other this];exact e⟩
theorem s_mput {t:TypeId} {M K X:Operand} {m k x:Opd} {kd:Nat} (ho:o.op = .mapUpdate t M K X∨o.op = .insert t M K X) (hrd:RdR G σ a rd) (h1:okOpd M m = true) (h2:okOpd K k = true) (h3:okOpd X x = true) (ht:okMapT P kd t = true) (hrel:Rel w0 G σ H D w)
  (hst:stepOp (.mput kd m k x) rd H id = some (v,H')):OpOut P o a w w0 G σ H' (fun o=>D o∨o = id) v:=by
 simp only [stepOp,Option.bind_eq_some_iff,Option.map_eq_some_iff,Prod.mk.injEq] at hst
 obtain ⟨p,hp,q,hq,u,hu,H2,hH2,rfl,rfl⟩:=hst
 have e1:=hrd M m h1 _ hp
 have e2:=hrd K k h2 _ hq
 have e3:=hrd X x h3 _ hu
 have hrun:(execOp a.eval o).run P w = ((Instr.mapUpdate t (a.eval M) (a.eval K) (a.eval X)).run P w).andThen fun _ w'=>.ok .skip w':=by
  rcases ho with ho | ho <;> (unfold execOp;simp only [ho,Sem.run_bind,Sem.run_pure])
 unfold okMapT at ht
 split at ht
 ·rename_i kt e hut
  obtain ⟨d,hd,hkd⟩:=okKeyT_some ht
  unfold mputV at hH2
  split at hH2
  ·rename_i o'
   split at hH2
   ·rename_i ob hob
    split at hH2
    ·rename_i hsp
     simp only [Option.map_eq_some_iff] at hH2
     obtain ⟨r,hr,rfl⟩:=hH2
     obtain ⟨B,l,c,hM,hB0,hB,hlo,hb,hcs,hv⟩:=map_obj hrel e1 hob hsp
     obtain ⟨R,hR,hm⟩:=findV_sound hkd e2 hv hr
     have go:∀ (ob':Ob) (obj:Obj),ob'.ver = ob.ver→SpO G σ ob' obj→(Instr.mapUpdate t (.map (some B.b)) (a.eval K) (a.eval X)).run P w = .ok () (w.putObj B.b obj)→OpOut P o a w w0 G σ (H.put o' ob') (fun o=>D o∨o = id) V.undef:=by
      intro ob' obj h1 h2 h3
      refine ⟨undef,_,σ,.inr ⟨by rw [hrun,hM,h3];rfl,rfl⟩,NC.putMap hb obj,SExt.refl _,(hrel.turn hob h1 hB hB0 hlo hb (fun _ _ _ e=>by cases e) h2).weaken fun _=>.inl,.deep (DR.tup (G:=G) .nil)⟩
     cases r with
     | none=>cases R with
      | some q=>exact hm.elim
      | none =>
       refine go _ (.map (l.push { key:=a.eval K,val:=a.eval X,born:=c }) (c+1)) rfl (.map ⟨hsp.1,hsp.2⟩ hcs ?_) ?_
       ·simpa using hv.append (.cons e2 (.cons e3 .nil))
       ·simp only [Instr.mapUpdate,Sem.run_bind,run_underlying hut,Result.andThen_ok,run_getObj_map hb,run_checkKey' hkd hd,run_findKey' hd hR,run_setObj_map' _ hb]
     | some p'=>cases R with
      | none=>exact hm.elim
      | some q' =>
       obtain ⟨c1,c2,c3,c4,e',c5,c6⟩:=hm
       simp only [Nat.sub_zero] at c4 c5
       refine go _ (.map (l.modify p'.1 fun e=>{ e with key:=a.eval K,val:=a.eval X }) c) rfl (.map ⟨hsp.1,hsp.2⟩ hcs ?_) ?_
       ·have:=VRL.flat_set e2 e3 p'.1 c4 hv
        simpa using this
       ·have h5 : l[q'.1]? = some e' := by rw [← c1]; simpa using c5
        have hsb:=sameBits_key hkd c6
        have hke:(Instr.keyThatStays (((l[q'.1]?).map (·.key)).getD (a.eval K)) (a.eval K)).run P w = .ok (a.eval K) w:=by
         rw [h5]
         simp only [Option.map_some,Option.getD_some,Instr.keyThatStays]
         rw [← hsb.2,if_pos (by rw [← hsb.2] at hsb;exact hsb.1)]
         rfl
        simp only [Instr.mapUpdate,Sem.run_bind,run_underlying hut,Result.andThen_ok,run_getObj_map hb,run_checkKey' hkd hd,run_findKey' hd hR,hke,run_setObj_map' _ hb,c1]
    ·cases hH2
   ·cases hH2
  ·cases hH2
 ·cases ht
theorem eqF_run {d:Nat} (w:World):∀ (fs:List Field) (i:Nat) (xs ys:Array Value) (c e:List V) (vs us:List Value) (r:Bool),okEqF P fs i = true→VRL G σ c vs→VRL G σ e us→c.length = fs.length→eqIs c e = some r →
  (∀ (j:Nat) v,vs[j]? = some v→xs[i+j]? = some v)→(∀ (j:Nat) v,us[j]? = some v→ys[i+j]? = some v)→(Op.eqFields (d+1) xs ys fs).run P w = .ok r w
 | [],i,xs,ys,c,e,vs,us,r,_,_,_,hl,he,_,_=>by
  have:c = []:=List.length_eq_zero_iff.1 hl
  subst this
  cases e with
  | nil=>simp only [eqIs,Option.some.injEq] at he;subst he;rfl
  | cons _ _=>simp [eqIs] at he
 | f::fs,i,xs,ys,c,e,vs,us,r,hok,hc,hd,hl,he,hx,hy=>by
  cases c with
  | nil=>simp at hl
  | cons c0 c =>
   cases e with
   | nil=>cases c0 <;> simp [eqIs] at he
   | cons e0 e =>
    cases c0 <;> try (simp [eqIs] at he;done)
    cases e0 <;> try (simp [eqIs] at he;done)
    rename_i k a k' b
    simp only [eqIs] at he
    split at he
    ·rename_i hk;subst hk
     obtain ⟨r',he',rfl⟩:=Option.map_eq_some_iff.1 he
     cases hc with | cons h1 hc =>
     cases hd with | cons h2 hd =>
     have f1:=h1.int_inv
     have f2:=h2.int_inv
     subst f1 f2
     simp only [okEqF,Bool.and_eq_true,bne_iff_ne,ne_eq,beq_iff_eq] at hok
     obtain ⟨⟨⟨⟨n1,rfl⟩,n3⟩,n4⟩,n5⟩:=hok
     have g1:=hx 0 _ rfl
     have g2:=hy 0 _ rfl
     rw [Nat.add_zero] at g1 g2
     obtain ⟨kk,hkk⟩:∃ kk,P.underlying f.type = some (.int kk):=by
      unfold intT at n4;split at n4
      ·rename_i kk hkk;exact ⟨kk,hkk⟩
      ·cases n4
     have ih:=eqF_run (d:=d) w fs (f.offset+1) xs ys c e _ _ r' n5 hc hd (by simpa using hl) he' (fun j v hv=>by have:=hx (j+1) v hv;rwa [show f.offset+(j+1) = f.offset+1+j by omega] at this) (fun j v hv=>by have:=hy (j+1) v hv;rwa [show f.offset+(j+1) = f.offset+1+j by omega] at this)
     simp only [Op.eqFields,if_pos n1,ne_eq,Sem.run_bind,run_part_plain w n3 g1,run_part_plain w n3 g2,Result.andThen_ok,run_equalIn_int w d f.type k kk a b hkk,n1,not_false_eq_true,if_true]
     by_cases hab:a = b
     ·subst hab;simp only [beq_self_eq_true,Bool.not_true,Bool.false_eq_true,if_false,decide_true,Bool.true_and];exact ih
     ·have : (a == b) = false := by simpa using hab
      simp only [this,Bool.not_false,if_true,hab,decide_false,Bool.false_and];rfl
    ·cases he
theorem eqA_run {d:Nat} (w:World) {t:TypeId} {kk:IntKind} (ht:P.plainKey t = true) (hkk:P.underlying t = some (.int kk)) (xs ys:Array Value):∀ (c e:List V) (i:Nat) (vs us:List Value) (r:Bool),VRL G σ c vs→VRL G σ e us→eqIs c e = some r →
  (∀ (j:Nat) v,vs[j]? = some v→xs[i+j]? = some v)→(∀ (j:Nat) v,us[j]? = some v→ys[i+j]? = some v)→(Op.eqItems (d+1) t 1 xs ys (List.range' i c.length)).run P w = .ok r w
 | [],e,i,vs,us,r,hc,hd,he,hx,hy=>by
  cases e with
  | nil=>simp only [eqIs,Option.some.injEq] at he;subst he;rfl
  | cons _ _=>simp [eqIs] at he
 | c0::c,e,i,vs,us,r,hc,hd,he,hx,hy=>by
  cases e with
  | nil=>cases c0 <;> simp [eqIs] at he
  | cons e0 e =>
   cases c0 <;> try (simp [eqIs] at he;done)
   cases e0 <;> try (simp [eqIs] at he;done)
   rename_i k a k' b
   simp only [eqIs] at he
   split at he
   ·rename_i hk;subst hk
    obtain ⟨r',he',rfl⟩:=Option.map_eq_some_iff.1 he
    cases hc with | cons h1 hc =>
    cases hd with | cons h2 hd =>
    have f1:=h1.int_inv
    have f2:=h2.int_inv
    subst f1 f2
    have g1:=hx 0 _ rfl
    have g2:=hy 0 _ rfl
    rw [Nat.add_zero] at g1 g2
    have ih:=eqA_run (d:=d) w ht hkk xs ys c e (i+1) _ _ r' hc hd he' (fun j v hv=>by have:=hx (j+1) v hv;rwa [show i+(j+1) = i+1+j by omega] at this) (fun j v hv=>by have:=hy (j+1) v hv;rwa [show i+(j+1) = i+1+j by omega] at this)
    simp only [List.length_cons,List.range'_succ,Op.eqItems,Nat.mul_one,Sem.run_bind,run_part_plain w ht g1,run_part_plain w ht g2,Result.andThen_ok,run_equalIn_int w d t k kk a b hkk]
    by_cases hab:a = b
    ·subst hab;simp only [beq_self_eq_true,Bool.not_true,Bool.false_eq_true,if_false,decide_true,Bool.true_and];exact ih
    ·have : (a == b) = false := by simpa using hab
     simp only [this,Bool.not_false,if_true,hab,decide_false,Bool.false_and];rfl
   ·cases he
theorem s_eqs {b:BinOp} {t u:TypeId} {X Y:Operand} {x y:Opd} {n:Nat} {neg:Bool} (ho:o.op = .binOp b t X Y u) (hb:eqneg b neg = true) (hrd:RdR G σ a rd)
  (h1:okOpd X x = true) (h2:okOpd Y y = true) (ht:okEqT P t n = true) (hrel:Rel w0 G σ H D w)
  (hst:stepOp (.eqs n neg x y) rd H id = some (v,H')):OpOut P o a w w0 G σ H' (fun o=>D o∨o = id) v:=by
 simp only [stepOp,Option.map_eq_some_iff,Option.bind_eq_some_iff] at hst
 obtain ⟨r,⟨p,hp,q,hq,hr⟩,e⟩:=hst
 cases e
 have e1:=hrd X x h1 _ hp
 have e2:=hrd Y y h2 _ hq
 unfold eqsV at hr
 split at hr
 ·rename_i c e
  split at hr
  ·rename_i hn
   obtain ⟨vs,hX,hvs,_⟩:=e1.agg_inv
   obtain ⟨us,hY,hus,_⟩:=e2.agg_inv
   unfold okEqT at ht
   split at ht
   ·rename_i fs hfs
    simp only [Bool.and_eq_true,beq_iff_eq,Bool.not_eq_true'] at ht
    obtain ⟨⟨⟨t1,t2⟩,t3⟩,t4⟩:=ht
    have hfe:P.fieldsOf t = fs:=by unfold Program.fieldsOf;rw [hfs]
    have hrun:(Op.equalIn 10000 t (.agg vs.toArray) (.agg us.toArray)).run P w = .ok r w:=by
     rw [run_equalIn_struct w 9999 t _ _ (by rw [hfe];exact hfs) t3,hfe]
     refine eqF_run (d:=9998) w fs.toList 0 _ _ c e vs us r t2 hvs hus (by rw [hn];simpa using t1.symm) hr (fun j v hv=>?_) (fun j v hv=>?_)
     ·simpa using hv
     ·simpa using hv
    refine out_same hrel (x:=.bool (r != neg)) ?_ (.deep (.bool _))
    rw [run_exec_bin ho,hX,hY,run_eqGuard_agg w b t X Y _ _ t4,Result.andThen_ok]
    unfold eqneg at hb;split at hb
    ·rw [run_eql_struct,hrun];cases r <;> simp_all <;> rfl
    ·rw [run_neq_struct,hrun];cases r <;> simp_all <;> rfl
    ·cases hb
   ·rename_i k et hfs
    simp only [Bool.and_eq_true,beq_iff_eq,Bool.not_eq_true'] at ht
    obtain ⟨⟨⟨⟨⟨t1,t2⟩,t3⟩,t4⟩,t5⟩,t6⟩:=ht
    obtain ⟨kk,hkk⟩:∃ kk,P.underlying et = some (.int kk):=by
     unfold intT at t2;split at t2
     ·rename_i kk hkk;exact ⟨kk,hkk⟩
     ·cases t2
    obtain ⟨inf,hinf⟩:=Option.isSome_iff_exists.1 t4
    have hrun:(Op.equalIn 10000 t (.agg vs.toArray) (.agg us.toArray)).run P w = .ok r w:=by
     rw [run_equalIn_array w 9999 _ _ hfs hinf,t5,List.range_eq_range',t1,← hn]
     refine eqA_run (d:=9998) w t3 hkk _ _ c e 0 vs us r hvs hus hr (fun j v hv=>?_) (fun j v hv=>?_)
     ·simpa using hv
     ·simpa using hv
    refine out_same hrel (x:=.bool (r != neg)) ?_ (.deep (.bool _))
    rw [run_exec_bin ho,hX,hY,run_eqGuard_agg w b t X Y _ _ t6,Result.andThen_ok]
    unfold eqneg at hb;split at hb
    ·rw [run_eql_struct,hrun];cases r <;> simp_all <;> rfl
    ·rw [run_neq_struct,hrun];cases r <;> simp_all <;> rfl
    ·cases hb
   ·cases ht
  ·cases hr
 ·cases hr
theorem step_sound2 {op:IOp} (hrd:RdR G σ a rd) (hok:okOp2 P o.op op = true) (hid:¬ D id) (hrel:Rel w0 G σ H D w)
  (hst:stepOp op rd H id = some (v,H')):OpOut P o a w w0 G σ H' (fun o=>D o∨o = id) v:=by
 generalize hop:o.op = oo at hok
 unfold okOp2 at hok
 split at hok
 ·cases hst
 ·simp only [Bool.and_eq_true] at hok;exact s_loadx hop hrd hok.1 hok.2 hrel hst
 ·rename_i n b al
  simp only [Bool.and_eq_true] at hok
  refine s_loadx (n:=n) (x:=b) (bs:=[]) hop hrd hok.1 hok.2 hrel ?_
  simp only [stepOp,Option.bind_eq_some_iff] at hst ⊢
  obtain ⟨p,hp,q,hq,hst⟩:=hst
  split at hst
  ·refine ⟨p,hp,?_⟩
   rw [if_pos (by rfl)]
   simpa only [Option.bind_eq_some_iff] using hst
  ·cases hst
 ·rename_i args ats al sz bytes s x
  obtain ⟨args⟩:=args;obtain ⟨ats⟩:=ats
  split at hok
  ·rename_i e1 e2;simp only at e1 e2;subst e1;subst e2
   simp only [Bool.and_eq_true] at hok
   refine s_app hop hrd hok.1.1 hok.1.2 hok.2 hid hrel (s:=s) (x:=x) ?_
   simp only [stepOp,Option.bind_eq_some_iff] at hst ⊢
   obtain ⟨p,hp,_,_,u,hu,hst⟩:=hst
   split at hst
   ·exact ⟨p,hp,u,hu,hst⟩
   ·cases hst
  ·cases hok
 ·rename_i args ats bs sz bytes s x
  obtain ⟨args⟩:=args;obtain ⟨ats⟩:=ats
  split at hok
  ·rename_i e1 e2;simp only at e1 e2;subst e1;subst e2
   simp only [Bool.and_eq_true] at hok
   refine s_app hop hrd hok.1.1 hok.1.2 hok.2 hid hrel (s:=s) (x:=x) ?_
   simp only [stepOp,Option.bind_eq_some_iff] at hst ⊢
   obtain ⟨p,hp,u,hu,hst⟩:=hst
   split at hst
   ·exact ⟨p,hp,u,hu,hst⟩
   ·cases hst
  ·cases hok
 ·rename_i args ats sz bytes z s n
  obtain ⟨args⟩:=args;obtain ⟨ats⟩:=ats
  split at hok
  ·rename_i e1 e2;simp only at e1 e2;subst e1;subst e2
   simp only [Bool.and_eq_true] at hok;exact s_appz hop hrd hok.1.1 hok.1.2 hok.2 hid hrel hst
  ·cases hok
 ·simp only [Bool.and_eq_true] at hok
  obtain ⟨⟨h1,h2⟩,h3⟩:=hok
  split at h3
  ·rename_i hu;exact s_sidx hop hrd h1 h2 hu hrel hst
  ·cases h3
 ·exact s_mkm hop hid hrel hst
 ·simp only [Bool.and_eq_true,beq_iff_eq] at hok
  obtain ⟨⟨⟨rfl,h2⟩,h3⟩,h4⟩:=hok
  exact s_lkp hop hrd h2 h3 h4 hrel hst
 ·simp only [Bool.and_eq_true] at hok;exact s_mput (.inl hop) hrd hok.1.1.1 hok.1.1.2 hok.1.2 hok.2 hrel hst
 ·simp only [Bool.and_eq_true] at hok;exact s_mput (.inr hop) hrd hok.1.1.1 hok.1.1.2 hok.1.2 hok.2 hrel hst
 ·simp only [Bool.and_eq_true] at hok;exact s_eqs hop hok.1.1.1 hrd hok.1.1.2 hok.1.2 hok.2 hrel hst
 ·cases hok
end
end Go.Dp
