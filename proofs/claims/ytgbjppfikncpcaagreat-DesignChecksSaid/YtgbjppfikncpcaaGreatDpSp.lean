/- Objects that are no cells: records of loops, maps. -/
import Derived.Test.YtgbjppfikncpcaaGreatDpMem3
import Derived.RangeFuncRecord
namespace Go.Dp
open Go.RowKit
set_option linter.unusedSimpArgs false
set_option linter.unusedVariables false
section
variable {w w0:World} {G:Gm} {σ:Sg} {H:Hp} {D:Nat→Prop}
theorem Rel.grow (h:Rel w0 G σ H D w) (o:Obj):Rel w0 G σ H D (w.alloc o):=by
 have hold:∀ k,k < w.heap.size→(w.alloc o).heap[k]? = w.heap[k]?:=fun k hk=>Below.heap_alloc w o k hk
 refine ⟨h.old.alloc h.old.size _,fun b i v e=>?_,h.dom,h.hdom,fun j ob e=>?_,h.inj,h.vers⟩
 ·rw [World.cell?_alloc_lt _ _ _ (by simpa using h.gok.lt e)]
  exact h.gok b i v e
 ·rcases h.obs _ _ e with ⟨B,hB,hlo,hob⟩ | hn | ⟨B,hB,hB0,hlo,hob⟩
  ·exact .inl ⟨B,hB,hlo,hob.mono (SExt.refl _) (hold _ hob.lt)⟩
  ·exact .inr (.inl hn)
  ·exact .inr (.inr ⟨B,hB,hB0,hlo,hob.mono (GExt.refl _) (SExt.refl _) (hold _ hob.lt)⟩)
theorem Rel.allocSp (h:Rel w0 G σ H D w) {id:Nat} (hid:¬ D id) {ob:Ob} (hv0:ob.ver = 0) {obj:Obj} (hsp:∀ σ',SExt σ σ'→SpO G σ' ob obj) :
  ∃ σ',SExt σ σ'∧σ' id 0 = some (some ⟨w.heap.size,0,0⟩)∧Rel w0 G σ' (H.put id ob) (fun o=>D o∨o = id) (w.alloc obj):=by
 have hnone:∀ ver,σ id ver = none:=fun ver=>by
  cases e:σ id ver with
  | none=>rfl
  | some x=>exact absurd (h.dom _ _ _ e) hid
 let σ':Sg:=fun o ver=>if o = id then (if ver = 0 then some (some ⟨w.heap.size,0,0⟩) else none) else σ o ver
 have hse:SExt σ σ':=fun o ver x e=>by
  by_cases ho:o = id
  ·subst ho;rw [hnone] at e;cases e
  ·simpa [σ',ho] using e
 have hnew:(w.alloc obj).heap[w.heap.size]? = some obj:=heap_alloc_new w _
 have hg:=h.grow obj
 have hlt:∀ o' ob' B,H o' = some ob'→σ o' ob'.ver = some (some B)→B.b < w.heap.size:=fun o' ob' B e s=>by
  rcases h.obs _ _ e with ⟨B2,hB2,_,hob⟩ | ⟨hn,_⟩ | ⟨B2,hB2,_,_,hob⟩
  ·rw [s] at hB2;cases hB2;exact hob.lt
  ·rw [s] at hn;cases hn
  ·rw [s] at hB2;cases hB2;exact hob.lt
 refine ⟨σ',hse,by simp [σ'],hg.old,hg.gok,fun o ver x e=>?_,fun o ob' e=>?_,fun o ob' e=>?_,fun o1 o2 ob1 ob2 B1 B2 e1 e2 s1 s2 hb=>?_,fun o ob' ver x e hx=>?_⟩
 ·by_cases ho:o = id
  ·exact .inr ho
  ·simp [σ',ho] at e;exact .inl (h.dom _ _ _ e)
 ·by_cases ho:o = id
  ·exact .inr ho
  ·simp [Hp.put,ho] at e;exact .inl (h.hdom _ _ e)
 ·by_cases ho:o = id
  ·subst ho;simp [Hp.put] at e;subst e
   exact .inr (.inr ⟨⟨w.heap.size,0,0⟩,by simp [σ',hv0],by simp [σ'],h.old.size,obj,hnew,hsp _ hse⟩)
  ·simp [Hp.put,ho] at e
   rcases hg.obs _ _ e with ⟨B,hB,hlo,hob⟩ | ⟨hn,hr⟩ | ⟨B,hB,hB0,hlo,hob⟩
   ·exact .inl ⟨B,hse _ _ _ hB,hlo,hob.mono hse rfl⟩
   ·exact .inr (.inl ⟨hse _ _ _ hn,hr⟩)
   ·exact .inr (.inr ⟨B,hse _ _ _ hB,hse _ _ _ hB0,hlo,hob.mono (GExt.refl _) hse rfl⟩)
 ·by_cases h1:o1 = id <;> by_cases h2:o2 = id
  ·rw [h1,h2]
  ·exfalso
   simp [Hp.put,h2] at e2
   simp [σ',h2] at s2
   subst h1;simp [Hp.put] at e1;subst e1
   simp [σ',hv0] at s1;subst s1
   have:=hlt _ _ _ e2 s2;simp at hb;omega
  ·exfalso
   simp [Hp.put,h1] at e1
   simp [σ',h1] at s1
   subst h2;simp [Hp.put] at e2;subst e2
   simp [σ',hv0] at s2;subst s2
   have:=hlt _ _ _ e1 s1;simp at hb;omega
  ·simp [Hp.put,h1] at e1
   simp [Hp.put,h2] at e2
   simp [σ',h1] at s1
   simp [σ',h2] at s2
   exact h.inj _ _ _ _ _ _ e1 e2 s1 s2 hb
 ·by_cases ho:o = id
  ·subst ho;simp [Hp.put] at e;subst e
   simp [σ'] at hx;rw [hv0];omega
  ·simp [Hp.put,ho] at e
   simp [σ',ho] at hx
   exact h.vers _ _ _ _ e hx
theorem putObj_cell {w:World} {l:Nat} {o o':Obj} (hl:w.heap[l]? = some o) (hn:∀ c t fr,o≠.cells c t fr) {a:Addr} {v:Value} (h:w.cell? a = some v):(w.putObj l o').cell? a = some v:=by
 by_cases e:a.block = l
 ·exfalso
  unfold World.cell? at h
  rw [e,hl] at h
  cases o <;> simp at h
  exact hn _ _ _ rfl
 ·rw [World.cell?_of_block (w:=w) (World.putObj_heap_other e)];exact h
theorem Rel.turn (h:Rel w0 G σ H D w) {o:Nat} {ob ob':Ob} (ho:H o = some ob) (hv:ob'.ver = ob.ver) {B:Blk} (hB:σ o ob.ver = some (some B)) (hB0:σ o 0 = some (some B)) (hlo:w0.heap.size≤B.b) {obj obj':Obj} (hb:w.heap[B.b]? = some obj) (hn:∀ c t fr,obj≠.cells c t fr)
  (hsp:SpO G σ ob' obj'):Rel w0 G σ (H.put o ob') D (w.putObj B.b obj'):=by
 have hlt:B.b < w.heap.size:=(Array.getElem?_eq_some_iff.1 hb).1
 have hoth:∀ k,k≠B.b→(w.putObj B.b obj').heap[k]? = w.heap[k]?:=fun k hk=>World.putObj_heap_other hk
 have key:∀ o' ob2,(H.put o ob') o' = some ob2→∃ ob3,H o' = some ob3∧ob2.ver = ob3.ver:=by
  intro o' ob2 e
  by_cases ho':o' = o
  ·subst ho';simp [Hp.put] at e;subst e;exact ⟨ob,ho,hv⟩
  ·simp [Hp.put,ho'] at e;exact ⟨ob2,e,rfl⟩
 refine ⟨h.old.trans ⟨rfl,rfl,rfl,by simp,fun k hk=>hoth k (by omega)⟩,fun b i v e=>putObj_cell hb hn (h.gok b i v e),h.dom,fun o' ob2 e=>?_,fun o' ob2 e=>?_,fun o1 o2 ob1 ob2 B1 B2 e1 e2 s1 s2 hbb=>?_,fun o' ob2 ver x e hs=>?_⟩
 ·obtain ⟨ob3,e3,_⟩:=key _ _ e;exact h.hdom _ _ e3
 ·by_cases ho':o' = o
  ·subst ho';simp [Hp.put] at e;subst e
   exact .inr (.inr ⟨B,by rw [hv];exact hB,hB0,hlo,obj',World.putObj_heap_same hlt,hsp⟩)
  ·simp [Hp.put,ho'] at e
   rcases h.obs _ _ e with ⟨B2,hB2,hlo2,hob⟩ | hn2 | ⟨B2,hB2,hB20,hlo2,hob⟩
   ·have hne:B2.b≠B.b:=fun e2=>ho' (h.inj _ _ _ _ _ _ e ho hB2 hB e2)
    exact .inl ⟨B2,hB2,hlo2,hob.mono (SExt.refl _) (hoth _ hne)⟩
   ·exact .inr (.inl hn2)
   ·have hne:B2.b≠B.b:=fun e2=>ho' (h.inj _ _ _ _ _ _ e ho hB2 hB e2)
    exact .inr (.inr ⟨B2,hB2,hB20,hlo2,hob.mono (GExt.refl _) (SExt.refl _) (hoth _ hne)⟩)
 ·obtain ⟨a1,b1,c1⟩:=key _ _ e1
  obtain ⟨a2,b2,c2⟩:=key _ _ e2
  exact h.inj _ _ _ _ _ _ b1 b2 (by rw [← c1];exact s1) (by rw [← c2];exact s2) hbb
 ·obtain ⟨ob3,e3,c3⟩:=key _ _ e
  rw [c3];exact h.vers _ _ _ _ e3 hs
theorem Rel.drop (h:Rel w0 G σ H D w) {o:Nat} {ob:Ob} (ho:H o = some ob) {B:Blk} (hB:σ o ob.ver = some (some B)) (hlo:w0.heap.size≤B.b) {obj:Obj} (obj':Obj) (hb:w.heap[B.b]? = some obj) (hn:∀ c t fr,obj≠.cells c t fr) :
  Rel w0 G σ (H.del o) D (w.putObj B.b obj'):=by
 have hoth:∀ k,k≠B.b→(w.putObj B.b obj').heap[k]? = w.heap[k]?:=fun k hk=>World.putObj_heap_other hk
 have key:∀ o' ob2,(H.del o) o' = some ob2→o'≠o∧H o' = some ob2:=by
  intro o' ob2 e
  unfold Hp.del at e
  split at e
  ·cases e
  ·rename_i hne;exact ⟨hne,e⟩
 refine ⟨h.old.trans ⟨rfl,rfl,rfl,by simp,fun k hk=>hoth k (by omega)⟩,fun b i v e=>putObj_cell hb hn (h.gok b i v e),h.dom,fun o' ob2 e=>h.hdom _ _ (key _ _ e).2,fun o' ob2 e=>?_,fun o1 o2 ob1 ob2 B1 B2 e1 e2 s1 s2 hbb=>h.inj _ _ _ _ _ _ (key _ _ e1).2 (key _ _ e2).2 s1 s2 hbb,fun o' ob2 ver x e hs=>h.vers _ _ _ _ (key _ _ e).2 hs⟩
 obtain ⟨ho',e⟩:=key _ _ e
 rcases h.obs _ _ e with ⟨B2,hB2,hlo2,hob⟩ | hn2 | ⟨B2,hB2,hB20,hlo2,hob⟩
 ·have hne:B2.b≠B.b:=fun e2=>ho' (h.inj _ _ _ _ _ _ e ho hB2 hB e2)
  exact .inl ⟨B2,hB2,hlo2,hob.mono (SExt.refl _) (hoth _ hne)⟩
 ·exact .inr (.inl hn2)
 ·have hne:B2.b≠B.b:=fun e2=>ho' (h.inj _ _ _ _ _ _ e ho hB2 hB e2)
  exact .inr (.inr ⟨B2,hB2,hB20,hlo2,hob.mono (GExt.refl _) (SExt.refl _) (hoth _ hne)⟩)
end
end Go.Dp
