/- Deep values, their relation to the model's values, and the ideal heap of a call's own objects. -/
import Derived.Below
import Derived.RangeFuncLeaves
import Derived.KernelRfl
namespace Go.Dp
open Go.RowKit
inductive V where
 | bool (b:Bool)
 | int (k:IntKind) (n:Int)
 | str (s:ByteArray)
 | nilp | nils | nilm | nilf | nili
 | sl (cells:List V) (len:Nat)
 | fp (cells:List V) (off:Nat)
 | ref (o ver off len:Nat)
 | ptr (o ver off:Nat)
 | clo (fn:Fn) (first caps:List V)
 | ifc (t:TypeId) (v:V)
 | mp (o:Nat)
 | agg (cells:List V)
 | tup (vs:List V)
 | own (cells:List V) (len sz:Nat)
 | yld (o:Nat)
 deriving Inhabited
abbrev Gm:=Nat→Nat→Option Value
structure Blk where
 b:Nat
 N:Nat
 sz:Nat
abbrev Sg:=Nat→Nat→Option (Option Blk)
def Ones (vs:List Value):Prop:=∀ x∈vs,x.oneCell' = true
mutual
inductive DR (G:Gm):V→Value→Prop
 | bool (b:Bool):DR G (.bool b) (.bool b)
 | int (k:IntKind) (n:Int):DR G (.int k n) (.int k n)
 | str (s:ByteArray):DR G (.str s) (.string s)
 | nilp:DR G .nilp (.pointer none)
 | nils:DR G .nils (.slice none 0 0)
 | nilm:DR G .nilm (.map none)
 | nilf:DR G .nilf .nilFunc
 | nili:DR G .nili .nilIface
 | sl0 (a:Option Addr) (c:Nat):DR G (.sl [] 0) (.slice a 0 c)
 | sl {cells:List V} {vs:List Value} {b o len c:Nat} (h:DRL G cells vs) (hg:∀ i v,vs[i]? = some v→G b (o+i) = some v) (hc:len≤c) (h1:Ones vs) :
   DR G (.sl cells len) (.slice (some ⟨b,o,none⟩) len c)
 | fp {cells:List V} {vs:List Value} {b o off:Nat} (h:DRL G cells vs) (hg:∀ i v,vs[i]? = some v→G b (o+i) = some v) (h1:Ones vs) :
   DR G (.fp cells off) (.pointer (some ⟨b,o+off,none⟩))
 | clo {fn:Fn} {first caps:List V} {vf vc:List Value} (hf:DRL G first vf) (hc:DRL G caps vc):DR G (.clo fn first caps) (.func fn vf.toArray vc.toArray)
 | ifc {t:TypeId} {v:V} {x:Value} (h:DR G v x):DR G (.ifc t v) (.iface t x)
 | agg {cells:List V} {vs:List Value} (h:DRL G cells vs) (h1:Ones vs):DR G (.agg cells) (.agg vs.toArray)
 | tup {cells:List V} {vs:List Value} (h:DRL G cells vs):DR G (.tup cells) (.tuple vs.toArray)
inductive DRL (G:Gm):List V→List Value→Prop
 | nil:DRL G [] []
 | cons {v:V} {x:Value} {l:List V} {m:List Value} (h:DR G v x) (t:DRL G l m):DRL G (v::l) (x::m)
end
mutual
inductive VR (G:Gm) (σ:Sg):V→Value→Prop
 | deep {v:V} {x:Value} (h:DR G v x):VR G σ v x
 | ref {o ver off len c:Nat} {B:Blk} (hs:σ o ver = some (some B)) (hc:len≤c) (hN:off+c * B.sz≤B.N):VR G σ (.ref o ver off len) (.slice (some ⟨B.b,off,none⟩) len c)
 | ref0 {o ver:Nat} (hs:σ o ver = some none):VR G σ (.ref o ver 0 0) (.slice none 0 0)
 | ptr {o ver off:Nat} {B:Blk} (hs:σ o ver = some (some B)):VR G σ (.ptr o ver off) (.pointer (some ⟨B.b,off,none⟩))
 | mp {o:Nat} {B:Blk} (hs:σ o 0 = some (some B)):VR G σ (.mp o) (.map (some B.b))
 | yld {o:Nat} {B:Blk} (hs:σ o 0 = some (some B)):VR G σ (.yld o) (.func (.yield B.b) #[] #[])
 | clo {fn:Fn} {first caps:List V} {vf vc:List Value} (hf:VRL G σ first vf) (hc:VRL G σ caps vc):VR G σ (.clo fn first caps) (.func fn vf.toArray vc.toArray)
 | ifc {t:TypeId} {v:V} {x:Value} (h:VR G σ v x):VR G σ (.ifc t v) (.iface t x)
 | agg {cells:List V} {vs:List Value} (h:VRL G σ cells vs) (h1:Ones vs):VR G σ (.agg cells) (.agg vs.toArray)
 | tup {cells:List V} {vs:List Value} (h:VRL G σ cells vs):VR G σ (.tup cells) (.tuple vs.toArray)
inductive VRL (G:Gm) (σ:Sg):List V→List Value→Prop
 | nil:VRL G σ [] []
 | cons {v:V} {x:Value} {l:List V} {m:List Value} (h:VR G σ v x) (t:VRL G σ l m):VRL G σ (v::l) (x::m)
end
def GExt (G G':Gm):Prop:=∀ b o v,G b o = some v→G' b o = some v
def SExt (σ σ':Sg):Prop:=∀ o ver x,σ o ver = some x→σ' o ver = some x
theorem GExt.refl (G:Gm):GExt G G:=fun _ _ _ h=>h
theorem SExt.refl (σ:Sg):SExt σ σ:=fun _ _ _ h=>h
theorem GExt.trans {a b c:Gm} (h:GExt a b) (k:GExt b c):GExt a c:=fun _ _ _ x=>k _ _ _ (h _ _ _ x)
theorem SExt.trans {a b c:Sg} (h:SExt a b) (k:SExt b c):SExt a c:=fun _ _ _ x=>k _ _ _ (h _ _ _ x)
mutual
theorem DR.mono {G G':Gm} (hG:GExt G G'):∀ {v:V} {x:Value},DR G v x→DR G' v x
 | _,_,.bool b=>.bool b
 | _,_,.int k n=>.int k n
 | _,_,.str s=>.str s
 | _,_,.nilp=>.nilp
 | _,_,.nils=>.nils
 | _,_,.nilm=>.nilm
 | _,_,.nilf=>.nilf
 | _,_,.nili=>.nili
 | _,_,.sl0 a c=>.sl0 a c
 | _,_,.sl h hg hc h1=>.sl (DRL.mono hG h) (fun i v e=>hG _ _ _ (hg i v e)) hc h1
 | _,_,.fp h hg h1=>.fp (DRL.mono hG h) (fun i v e=>hG _ _ _ (hg i v e)) h1
 | _,_,.clo hf hc=>.clo (DRL.mono hG hf) (DRL.mono hG hc)
 | _,_,.ifc h=>.ifc (DR.mono hG h)
 | _,_,.agg h h1=>.agg (DRL.mono hG h) h1
 | _,_,.tup h=>.tup (DRL.mono hG h)
theorem DRL.mono {G G':Gm} (hG:GExt G G'):∀ {l:List V} {m:List Value},DRL G l m→DRL G' l m
 | _,_,.nil=>.nil
 | _,_,.cons h t=>.cons (DR.mono hG h) (DRL.mono hG t)
end
mutual
theorem VR.mono {G G':Gm} {σ σ':Sg} (hG:GExt G G') (hs:SExt σ σ'):∀ {v:V} {x:Value},VR G σ v x→VR G' σ' v x
 | _,_,.deep h=>.deep (h.mono hG)
 | _,_,.ref h1 h2 h3=>.ref (hs _ _ _ h1) h2 h3
 | _,_,.ref0 h=>.ref0 (hs _ _ _ h)
 | _,_,.ptr h=>.ptr (hs _ _ _ h)
 | _,_,.mp h=>.mp (hs _ _ _ h)
 | _,_,.yld h=>.yld (hs _ _ _ h)
 | _,_,.clo hf hc=>.clo (VRL.mono hG hs hf) (VRL.mono hG hs hc)
 | _,_,.ifc h=>.ifc (VR.mono hG hs h)
 | _,_,.agg h h1=>.agg (VRL.mono hG hs h) h1
 | _,_,.tup h=>.tup (VRL.mono hG hs h)
theorem VRL.mono {G G':Gm} {σ σ':Sg} (hG:GExt G G') (hs:SExt σ σ'):∀ {l:List V} {m:List Value},VRL G σ l m→VRL G' σ' l m
 | _,_,.nil=>.nil
 | _,_,.cons h t=>.cons (VR.mono hG hs h) (VRL.mono hG hs t)
end
theorem DRL.vrl {G:Gm} {σ:Sg}:∀ {l:List V} {m:List Value},DRL G l m→VRL G σ l m
 | _,_,.nil=>.nil
 | _,_,.cons h t=>.cons (.deep h) t.vrl
theorem DRL.length {G:Gm}:∀ {l:List V} {m:List Value},DRL G l m→l.length = m.length
 | _,_,.nil=>rfl
 | _,_,.cons _ t=>by simp [t.length]
theorem VRL.length {G:Gm} {σ:Sg}:∀ {l:List V} {m:List Value},VRL G σ l m→l.length = m.length
 | _,_,.nil=>rfl
 | _,_,.cons _ t=>by simp [t.length]
theorem DRL.get {G:Gm}:∀ {l:List V} {m:List Value},DRL G l m→∀ {i:Nat} {v:V},l[i]? = some v→∃ x,m[i]? = some x∧DR G v x
 | _,_,.nil,i,v,h=>by simp at h
 | _,_,.cons h t,0,v,e=>by simp at e;subst e;exact ⟨_,rfl,h⟩
 | _,_,.cons h t,i+1,v,e=>by simp at e;simpa using t.get e
theorem VRL.get {G:Gm} {σ:Sg}:∀ {l:List V} {m:List Value},VRL G σ l m→∀ {i:Nat} {v:V},l[i]? = some v→∃ x,m[i]? = some x∧VR G σ v x
 | _,_,.nil,i,v,h=>by simp at h
 | _,_,.cons h t,0,v,e=>by simp at e;subst e;exact ⟨_,rfl,h⟩
 | _,_,.cons h t,i+1,v,e=>by simp at e;simpa using t.get e
theorem VRL.append {G:Gm} {σ:Sg}:∀ {l l':List V} {m m':List Value},VRL G σ l m→VRL G σ l' m'→VRL G σ (l++l') (m++m')
 | _,_,_,_,.nil,h=>h
 | _,_,_,_,.cons h t,h'=>.cons h (t.append h')
theorem DRL.append {G:Gm}:∀ {l l':List V} {m m':List Value},DRL G l m→DRL G l' m'→DRL G (l++l') (m++m')
 | _,_,_,_,.nil,h=>h
 | _,_,_,_,.cons h t,h'=>.cons h (t.append h')
theorem VRL.of_get {G:Gm} {σ:Sg}:∀ {l:List V} {m:List Value},l.length = m.length→(∀ (i:Nat) (v:V),l[i]? = some v→∃ x,m[i]? = some x∧VR G σ v x)→VRL G σ l m
 | [],[],_,_=>.nil
 | [],_::_,h,_=>by simp at h
 | _::_,[],h,_=>by simp at h
 | v::l,x::m,h,hg=>by
  obtain ⟨y,e,hy⟩:=hg 0 v rfl
  simp at e;subst e
  exact .cons hy (VRL.of_get (by simpa using h) fun i u hu=>by simpa using hg (i+1) u (by simpa using hu))
theorem DRL.of_get {G:Gm}:∀ {l:List V} {m:List Value},l.length = m.length→(∀ (i:Nat) (v:V),l[i]? = some v→∃ x,m[i]? = some x∧DR G v x)→DRL G l m
 | [],[],_,_=>.nil
 | [],_::_,h,_=>by simp at h
 | _::_,[],h,_=>by simp at h
 | v::l,x::m,h,hg=>by
  obtain ⟨y,e,hy⟩:=hg 0 v rfl
  simp at e;subst e
  exact .cons hy (DRL.of_get (by simpa using h) fun i u hu=>by simpa using hg (i+1) u (by simpa using hu))
theorem VRL.take {G:Gm} {σ:Sg}:∀ {l:List V} {m:List Value} (n:Nat),VRL G σ l m→VRL G σ (l.take n) (m.take n)
 | _,_,0,_=>by simpa using VRL.nil
 | _,_,n+1,.nil=>by simpa using VRL.nil
 | _,_,n+1,.cons h t=>by simpa using VRL.cons h (t.take n)
theorem VRL.drop {G:Gm} {σ:Sg}:∀ {l:List V} {m:List Value} (n:Nat),VRL G σ l m→VRL G σ (l.drop n) (m.drop n)
 | _,_,0,h=>by simpa using h
 | _,_,n+1,.nil=>by simpa using VRL.nil
 | _,_,n+1,.cons h t=>by simpa using t.drop n
structure Ob where
 cells:List V
 sz:Nat
 ver:Nat:=0
 fz:Nat:=0
 nl:Nat:=0
 sp:Nat:=0
 mp:List (V × V):=[]
 deriving Inhabited
abbrev Hp:=Nat→Option Ob
def Hp.put (H:Hp) (o:Nat) (ob:Ob):Hp:=fun i=>if i = o then some ob else H i
def Hp.del (H:Hp) (o:Nat):Hp:=fun i=>if i = o then none else H i
def GOk (G:Gm) (w:World):Prop:=∀ b o v,G b o = some v→w.cell? ⟨b,o,none⟩ = some v
structure ObR (G:Gm) (σ:Sg) (w:World) (ob:Ob) (B:Blk):Prop where
 nl:ob.nl≠1
 sp:ob.sp = 0
 sz:ob.sz = B.sz
 blk:∃ (c:Array Value) (t:TypeId),w.heap[B.b]? = some (.cells c t (0,0))∧c.size = B.N∧ob.cells.length≤B.N∧∀ (i:Nat) (v:V),ob.cells[i]? = some v→∃ x:Value,c[i]? = some x∧VR G σ v x∧x.oneCell' = true
 gsep:∀ (o:Nat) (v:Value),G B.b o = some v→o < ob.fz
def LoopSt (r:Loop):Nat→Prop
 | 0=>r.state = .ready∧r.pending = none
 | 1=>r.state = .busy
 | 2=>r.state = .done∧r.pending = some .ret
 | n+3=>r.state = .done∧r.pending = some (.exit n)
inductive SpO (G:Gm) (σ:Sg) (ob:Ob):Obj→Prop
 | loop {r:Loop} (h:ob.sp = 1∧ob.nl = 0) (hc:ob.cells = []) (hs:LoopSt r ob.sz):SpO G σ ob (.loop r)
 | map {es:Array MapEntry} {clock:Nat} (h:ob.sp = 2∧ob.nl = 0) (hc:ob.cells = []) (hm:VRL G σ (ob.mp.flatMap fun e=>[e.1,e.2]) (es.toList.flatMap fun e=>[e.key,e.val])):SpO G σ ob (.map es clock)
def SpR (G:Gm) (σ:Sg) (w:World) (ob:Ob) (B:Blk):Prop:=∃ obj,w.heap[B.b]? = some obj∧SpO G σ ob obj
theorem SpO.sp {G:Gm} {σ:Sg} {ob:Ob} {o:Obj} (h:SpO G σ ob o):ob.sp≠0:=by cases h <;> omega
theorem SpO.nl0 {G:Gm} {σ:Sg} {ob:Ob} {o:Obj} (h:SpO G σ ob o):ob.nl = 0:=by cases h <;> omega
theorem SpO.mono {G G':Gm} {σ σ':Sg} {ob:Ob} {o:Obj} (hG:GExt G G') (hs:SExt σ σ'):SpO G σ ob o→SpO G' σ' ob o
 | .loop h hc hl=>.loop h hc hl
 | .map h hc hm=>.map h hc (hm.mono hG hs)
theorem SpO.nil {G:Gm} {σ:Sg} {ob:Ob} {o:Obj} (h:SpO G σ ob o):ob.cells = []:=by cases h <;> assumption
theorem SpO.cast {G:Gm} {σ:Sg} {ob ob':Ob} {o:Obj} (hn:ob'.sp = ob.sp) (hnl:ob'.nl = ob.nl∨ob'.nl = 0) (hc:ob'.cells = ob.cells) (hz:ob'.sz = ob.sz) (hm:ob'.mp = ob.mp):SpO G σ ob o→SpO G σ ob' o
 | .loop h h2 hl=>.loop ⟨hn.trans h.1,by omega⟩ (hc.trans h2) (hz ▸ hl)
 | .map h h2 h3=>.map ⟨hn.trans h.1,by omega⟩ (hc.trans h2) (hm ▸ h3)
theorem SpR.sp {G:Gm} {σ:Sg} {w:World} {ob:Ob} {B:Blk} (h:SpR G σ w ob B):ob.sp≠0:=let ⟨_,_,h⟩:=h;h.sp
theorem SpR.cast {G:Gm} {σ:Sg} {w:World} {ob ob':Ob} {B:Blk} (h:SpR G σ w ob B) (hn:ob'.sp = ob.sp) (hnl:ob'.nl = ob.nl∨ob'.nl = 0) (hc:ob'.cells = ob.cells) (hz:ob'.sz = ob.sz) (hm:ob'.mp = ob.mp):SpR G σ w ob' B:=let ⟨o,a,b⟩:=h;⟨o,a,b.cast hn hnl hc hz hm⟩
theorem SpR.nl0 {G:Gm} {σ:Sg} {w:World} {ob:Ob} {B:Blk} (h:SpR G σ w ob B):ob.nl = 0:=let ⟨_,_,h⟩:=h;h.nl0
theorem SpR.nil {G:Gm} {σ:Sg} {w:World} {ob:Ob} {B:Blk} (h:SpR G σ w ob B):ob.cells = []:=let ⟨_,_,h⟩:=h;h.nil
theorem SpR.lt {G:Gm} {σ:Sg} {w:World} {ob:Ob} {B:Blk} (h:SpR G σ w ob B):B.b < w.heap.size:=let ⟨_,h,_⟩:=h;(Array.getElem?_eq_some_iff.1 h).1
theorem SpR.mono {G G':Gm} {σ σ':Sg} {w w':World} {ob:Ob} {B:Blk} (h:SpR G σ w ob B) (hG:GExt G G') (hs:SExt σ σ') (hw:w'.heap[B.b]? = w.heap[B.b]?):SpR G' σ' w' ob B:=let ⟨o,a,b⟩:=h;⟨o,hw.trans a,b.mono hG hs⟩
theorem SpR.not_cells {G:Gm} {σ:Sg} {w:World} {ob:Ob} {B:Blk} (h:SpR G σ w ob B) {c:Array Value} {t:TypeId} {fr:Nat × Nat} (hb:w.heap[B.b]? = some (.cells c t fr)):False:=by
 obtain ⟨o,h1,h2⟩:=h
 rw [hb] at h1;cases h1;cases h2
structure Rel (w0:World) (G:Gm) (σ:Sg) (H:Hp) (D:Nat→Prop) (w:World):Prop where
 old:Below w0.heap.size w0 w
 gok:GOk G w
 dom:∀ o ver x,σ o ver = some x→D o
 hdom:∀ o ob,H o = some ob→D o
 obs:∀ o ob,H o = some ob→(∃ B,σ o ob.ver = some (some B)∧w0.heap.size≤B.b∧ObR G σ w ob B)∨(σ o ob.ver = some none∧ob.cells = []∧ob.nl≠0∧ob.fz = 0)∨(∃ B,σ o ob.ver = some (some B)∧σ o 0 = some (some B)∧w0.heap.size≤B.b∧SpR G σ w ob B)
 inj:∀ o o' ob ob' B B',H o = some ob→H o' = some ob'→σ o ob.ver = some (some B)→σ o' ob'.ver = some (some B')→B.b = B'.b→o = o'
 vers:∀ o ob ver x,H o = some ob→σ o ver = some x→ver≤ob.ver
theorem GOk.lt {G:Gm} {w:World} (h:GOk G w) {b o:Nat} {v:Value} (e:G b o = some v):b < w.heap.size:=World.block_lt_of_cell? w (a:=⟨b,o,none⟩) (h b o v e)
theorem ObR.lt {G:Gm} {σ:Sg} {w:World} {ob:Ob} {B:Blk} (h:ObR G σ w ob B):B.b < w.heap.size:=by
 obtain ⟨c,t,hb,_⟩:=h.blk
 exact (Array.getElem?_eq_some_iff.1 hb).1
theorem ObR.mono {G:Gm} {σ σ':Sg} {w w':World} {ob:Ob} {B:Blk} (h:ObR G σ w ob B) (hs:SExt σ σ') (hw:w'.heap[B.b]? = w.heap[B.b]?):ObR G σ' w' ob B:=by
 obtain ⟨c,t,hb,hN,hl,hc⟩:=h.blk
 exact ⟨h.nl,h.sp,h.sz,⟨c,t,hw.trans hb,hN,hl,fun i v e=>let ⟨x,hx,hv,h1⟩:=hc i v e;⟨x,hx,hv.mono (GExt.refl _) hs,h1⟩⟩,h.gsep⟩
theorem Rel.alloc' {w0 w:World} {G:Gm} {σ:Sg} {H:Hp} {D:Nat→Prop} (h:Rel w0 G σ H D w) {id:Nat} (hid:¬ D id) {cells:List V} {arr:Array Value} (hv:∀ (i:Nat) (v:V),cells[i]? = some v→∃ x:Value,arr[i]? = some x∧VR G σ v x∧x.oneCell' = true) (hl:cells.length≤arr.size) (sz:Nat) (t:TypeId) :
  ∃ σ',SExt σ σ'∧σ' id 0 = some (some ⟨w.heap.size,arr.size,sz⟩) ∧
   Rel w0 G σ' (H.put id { cells,sz }) (fun o=>D o∨o = id) (w.alloc (.cells arr t)):=by
 have hnone:∀ ver,σ id ver = none:=fun ver=>by
  cases e:σ id ver with
  | none=>rfl
  | some x=>exact absurd (h.dom _ _ _ e) hid
 have hHn:H id = none:=by
  cases e:H id with
  | none=>rfl
  | some x=>exact absurd (h.hdom _ _ e) hid
 let σ':Sg:=fun o ver=>if o = id then (if ver = 0 then some (some ⟨w.heap.size,arr.size,sz⟩) else none) else σ o ver
 have hse:SExt σ σ':=fun o ver x e=>by
  by_cases ho:o = id
  ·subst ho;rw [hnone] at e;cases e
  ·simpa [σ',ho] using e
 have hnew:(w.alloc (.cells arr t)).heap[w.heap.size]? = some (.cells arr t):=heap_alloc_new w _
 have hold:∀ k,k < w.heap.size→(w.alloc (.cells arr t)).heap[k]? = w.heap[k]?:=fun k hk=>heap_alloc_old w _ k hk
 refine ⟨σ',hse,by simp [σ'],⟨h.old.alloc h.old.size _,?_,?_,?_,?_,?_,?_⟩⟩
 ·intro b o v e
  have hb:=h.gok.lt e
  rw [World.cell?_alloc_lt _ _ _ (by simpa using hb)]
  exact h.gok b o v e
 ·intro o ver x e
  by_cases ho:o = id
  ·exact .inr ho
  ·simp [σ',ho] at e;exact .inl (h.dom _ _ _ e)
 ·intro o ob e
  by_cases ho:o = id
  ·exact .inr ho
  ·simp [Hp.put,ho] at e;exact .inl (h.hdom _ _ e)
 ·intro o ob e
  by_cases ho:o = id
  ·subst ho
   simp [Hp.put] at e
   subst e
   refine .inl ⟨⟨w.heap.size,arr.size,sz⟩,by simp [σ'],h.old.size,⟨by simp,rfl,rfl,⟨arr,t,hnew,rfl,hl,?_⟩,?_⟩⟩
   ·intro i v hi
    obtain ⟨x,hx,hr,h1⟩:=hv i v hi
    exact ⟨x,hx,hr.mono (GExt.refl _) hse,h1⟩
   ·intro o v e
    exact absurd (h.gok.lt e) (Nat.lt_irrefl _)
  ·simp [Hp.put,ho] at e
   rcases h.obs o ob e with ⟨B,hB,hlo,hob⟩ | ⟨hn,hr⟩ | ⟨B,hB,hB0,hlo,hob⟩
   ·exact .inl ⟨B,hse _ _ _ hB,hlo,hob.mono hse (hold _ hob.lt)⟩
   ·exact .inr (.inl ⟨hse _ _ _ hn,hr⟩)
   ·exact .inr (.inr ⟨B,hse _ _ _ hB,hse _ _ _ hB0,hlo,hob.mono (GExt.refl _) hse (hold _ hob.lt)⟩)
 ·intro o o' ob ob' B B' e e' hs hs' hb
  by_cases ho:o = id <;> by_cases ho':o' = id
  ·rw [ho,ho']
  ·exfalso
   simp [Hp.put,ho'] at e'
   simp [σ',ho'] at hs'
   subst ho
   simp [Hp.put] at e;subst e
   simp [σ'] at hs;subst hs
   rcases h.obs o' ob' e' with ⟨B2,hB2,_,hob⟩ | ⟨hn,_⟩ | ⟨B2,hB2,_,_,hob⟩
   ·rw [hs'] at hB2;cases hB2;have:=hob.lt;simp at hb;omega
   ·rw [hs'] at hn;cases hn
   ·rw [hs'] at hB2;cases hB2;have:=hob.lt;simp at hb;omega
  ·exfalso
   simp [Hp.put,ho] at e
   simp [σ',ho] at hs
   subst ho'
   simp [Hp.put] at e';subst e'
   simp [σ'] at hs';subst hs'
   rcases h.obs o ob e with ⟨B2,hB2,_,hob⟩ | ⟨hn,_⟩ | ⟨B2,hB2,_,_,hob⟩
   ·rw [hs] at hB2;cases hB2;have:=hob.lt;simp at hb;omega
   ·rw [hs] at hn;cases hn
   ·rw [hs] at hB2;cases hB2;have:=hob.lt;simp at hb;omega
  ·simp [Hp.put,ho] at e
   simp [Hp.put,ho'] at e'
   simp [σ',ho] at hs
   simp [σ',ho'] at hs'
   exact h.inj o o' ob ob' B B' e e' hs hs' hb
 ·intro o ob ver x e hs
  by_cases ho:o = id
  ·subst ho
   simp [Hp.put] at e;subst e
   simp [σ'] at hs
   simp [hs.1]
  ·simp [Hp.put,ho] at e
   simp [σ',ho] at hs
   exact h.vers o ob ver x e hs
theorem VRL.cells {G:Gm} {σ:Sg} {cells:List V} {vs:List Value} (hv:VRL G σ cells vs) (h1:Ones vs) (extra:List Value) :
  ∀ (i:Nat) (v:V),cells[i]? = some v→∃ x:Value,(vs++extra).toArray[i]? = some x∧VR G σ v x∧x.oneCell' = true:=fun i v hi=>by
 obtain ⟨x,hx,hr⟩:=hv.get hi
 have hlt:=(List.getElem?_eq_some_iff.1 hx).1
 exact ⟨x,by rw [List.getElem?_toArray,List.getElem?_append_left hlt];exact hx,hr,h1 x (List.mem_of_getElem? hx)⟩
theorem Rel.alloc {w0 w:World} {G:Gm} {σ:Sg} {H:Hp} {D:Nat→Prop} (h:Rel w0 G σ H D w) {id:Nat} (hid:¬ D id) {cells:List V} {vs:List Value} (hv:VRL G σ cells vs) (h1:Ones vs) (sz:Nat) (t:TypeId) :
  ∃ σ',SExt σ σ'∧σ' id 0 = some (some ⟨w.heap.size,vs.length,sz⟩) ∧
   Rel w0 G σ' (H.put id { cells,sz }) (fun o=>D o∨o = id) (w.alloc (.cells vs.toArray t)):=by
 have:=h.alloc' hid (cells:=cells) (arr:=vs.toArray) (by simpa using hv.cells h1 []) (by simp [hv.length]) sz t
 simpa using this
theorem Rel.weaken {w0 w:World} {G:Gm} {σ:Sg} {H:Hp} {D D':Nat→Prop} (h:Rel w0 G σ H D w) (hd:∀ o,D o→D' o):Rel w0 G σ H D' w :=
 ⟨h.old,h.gok,fun o ver x e=>hd _ (h.dom o ver x e),fun o ob e=>hd _ (h.hdom o ob e),h.obs,h.inj,h.vers⟩
theorem Rel.drew {w0 w:World} {G:Gm} {σ:Sg} {H:Hp} {D:Nat→Prop} (h:Rel w0 G σ H D w):Rel w0 G σ H D { w with drawn:=w.drawn+1 } :=
 ⟨h.old.drew,h.gok,h.dom,h.hdom,fun o ob e=>(h.obs o ob e).imp (fun ⟨B,a,b,c⟩=>⟨B,a,b,c.mono (SExt.refl _) rfl⟩) (·.imp id (fun ⟨B,a,a0,b,c⟩=>⟨B,a,a0,b,c.mono (GExt.refl _) (SExt.refl _) rfl⟩)),h.inj,h.vers⟩
theorem Rel.write {w0 w:World} {G:Gm} {σ:Sg} {H:Hp} {D:Nat→Prop} (h:Rel w0 G σ H D w) {o:Nat} {ob:Ob} {B:Blk} (ho:H o = some ob) (hs:σ o ob.ver = some (some B))
  {cur:Array Value} {t:TypeId} (hb:w.heap[B.b]? = some (.cells cur t (0,0))) {off:Nat} (hf:ob.fz≤off) {cs:List V} {vs:List Value} (hv:VRL G σ cs vs) (hone:Ones vs) (hlen:off+vs.length≤cur.size) (hoff:off≤ob.cells.length)
  {cells':List V} (hc':cells' = ob.cells.take off++cs++ob.cells.drop (off+cs.length)) :
  Rel w0 G σ (H.put o { ob with cells:=cells' }) D (w.setRow B.b (cur.toList.take off++vs++cur.toList.drop (off+vs.length)).toArray):=by
 obtain ⟨B2,hB2,hlo,hob⟩:∃ B,σ o ob.ver = some (some B)∧w0.heap.size≤B.b∧ObR G σ w ob B:=by
  rcases h.obs o ob ho with h1 | ⟨h2,_⟩ | ⟨B2,hB2,_,_,h3⟩
  ·exact h1
  ·rw [hs] at h2;cases h2
  ·rw [hs] at hB2;cases hB2;exact (h3.not_cells hb).elim
 rw [hs] at hB2;cases hB2
 obtain ⟨c,t2,hb2,hN,hl,hcl⟩:=hob.blk
 rw [hb] at hb2;cases hb2
 have hcv:=hv.length
 have hnew:(w.setRow B.b (cur.toList.take off++vs++cur.toList.drop (off+vs.length)).toArray).heap[B.b]? = some (.cells (cur.toList.take off++vs++cur.toList.drop (off+vs.length)).toArray t (0,0)):=setRow_heap w B.b cur _ t _ hb
 have hoth:∀ k,k≠B.b→(w.setRow B.b (cur.toList.take off++vs++cur.toList.drop (off+vs.length)).toArray).heap[k]? = w.heap[k]?:=fun k hk=>setRow_other w B.b k _ hk
 have hsize:(cur.toList.take off++vs++cur.toList.drop (off+vs.length)).length = cur.size:=by
  simp only [List.length_append,List.length_take,List.length_drop,Array.length_toList];omega
 refine ⟨h.old.trans ⟨rfl,rfl,rfl,by simp [World.setRow],fun k hk=>hoth k (by omega)⟩,?_,h.dom,?_,?_,?_,?_⟩
 ·intro b i v e
  have hc:=h.gok b i v e
  by_cases hbb:b = B.b
  ·subst hbb
   have hi:=hob.gsep i v e
   have hio:i < off:=by omega
   simp only [World.cell?,hnew,Option.isSome_none,Bool.false_eq_true,if_false]
   simp only [World.cell?,hb,Option.isSome_none,Bool.false_eq_true,if_false] at hc
   simp only [List.getElem?_toArray,List.getElem?_append,List.length_append,List.length_take,Array.length_toList]
   have hmin:min off cur.size = off:=by omega
   rw [hmin,if_pos (by omega),if_pos hio,List.getElem?_take,if_pos hio]
   simpa using hc
  ·rw [World.cell?_of_block (w:=w) (hoth b hbb)];exact hc
 ·intro o' ob' e
  by_cases ho':o' = o
  ·subst ho';exact h.hdom _ _ ho
  ·simp [Hp.put,ho'] at e;exact h.hdom _ _ e
 ·intro o' ob' e
  by_cases ho':o' = o
  ·subst ho'
   simp [Hp.put] at e;subst e
   refine .inl ⟨B,hs,hlo,⟨hob.nl,hob.sp,hob.sz,⟨_,t,hnew,?_,?_,?_⟩,hob.gsep⟩⟩
   ·simp only [List.size_toArray,hsize,hN]
   ·subst hc'
    simp only [List.length_append,List.length_take,List.length_drop]
    omega
   ·intro i v hi
    subst hc'
    simp only [List.getElem?_append,List.length_append,List.length_take] at hi
    have hmin:min off ob.cells.length = off:=by omega
    rw [hmin] at hi
    simp only [List.getElem?_toArray,List.getElem?_append,List.length_append,List.length_take,Array.length_toList]
    have hmin2:min off cur.size = off:=by omega
    rw [hmin2]
    by_cases h1:i < off
    ·rw [if_pos (by omega), if_pos h1, List.getElem?_take, if_pos h1] at hi
     rw [if_pos (by omega),if_pos h1,List.getElem?_take,if_pos h1]
     obtain ⟨x,hx,hr⟩:=hcl i v hi
     exact ⟨x,by simpa using hx,hr⟩
    ·by_cases h2:i < off+cs.length
     ·rw [if_pos h2,if_neg h1] at hi
      rw [if_pos (by omega),if_neg h1]
      obtain ⟨x,hx,hr⟩:=hv.get hi
      exact ⟨x,hx,hr,hone x (List.mem_of_getElem? hx)⟩
     ·rw [if_neg h2,List.getElem?_drop] at hi
      rw [if_neg (by omega),List.getElem?_drop]
      have e1:off+cs.length+(i - (off+cs.length)) = i:=by omega
      have e2:off+vs.length+(i - (off+vs.length)) = i:=by omega
      rw [e1] at hi;rw [e2]
      obtain ⟨x,hx,hr⟩:=hcl i v hi
      exact ⟨x,by simpa using hx,hr⟩
  ·simp [Hp.put,ho'] at e
   rcases h.obs o' ob' e with ⟨B',hB',hlo',hob'⟩ | hn | ⟨B',hB',hB0,hlo',hob'⟩
   ·have hne:B'.b≠B.b:=fun e2=>ho' (h.inj o' o ob' ob B' B e ho hB' hs e2)
    exact .inl ⟨B',hB',hlo',hob'.mono (SExt.refl _) (hoth _ hne)⟩
   ·exact .inr (.inl hn)
   ·have hne:B'.b≠B.b:=fun e2=>ho' (h.inj o' o ob' ob B' B e ho hB' hs e2)
    exact .inr (.inr ⟨B',hB',hB0,hlo',hob'.mono (GExt.refl _) (SExt.refl _) (hoth _ hne)⟩)
 ·intro o1 o2 ob1 ob2 B1 B2 e1 e2 s1 s2 hbb
  have k1:∃ ob1',H o1 = some ob1'∧ob1'.ver = ob1.ver:=by
   by_cases h1:o1 = o
   ·subst h1;simp [Hp.put] at e1;subst e1;exact ⟨ob,ho,rfl⟩
   ·simp [Hp.put,h1] at e1;exact ⟨ob1,e1,rfl⟩
  have k2:∃ ob2',H o2 = some ob2'∧ob2'.ver = ob2.ver:=by
   by_cases h1:o2 = o
   ·subst h1;simp [Hp.put] at e2;subst e2;exact ⟨ob,ho,rfl⟩
   ·simp [Hp.put,h1] at e2;exact ⟨ob2,e2,rfl⟩
  obtain ⟨a1,b1,c1⟩:=k1
  obtain ⟨a2,b2,c2⟩:=k2
  exact h.inj o1 o2 a1 a2 B1 B2 b1 b2 (by rw [c1];exact s1) (by rw [c2];exact s2) hbb
 ·intro o' ob' ver x e hsx
  by_cases ho':o' = o
  ·subst ho';simp [Hp.put] at e;subst e;exact h.vers o' ob ver x ho hsx
  ·simp [Hp.put,ho'] at e;exact h.vers _ _ _ _ e hsx
theorem Rel.trunc {w0 w:World} {G:Gm} {σ:Sg} {H:Hp} {D:Nat→Prop} (h:Rel w0 G σ H D w) {o:Nat} {ob:Ob} (ho:H o = some ob) (n:Nat):Rel w0 G σ (H.put o { ob with cells:=ob.cells.take n }) D w:=by
 have key:∀ o' ob',(H.put o { ob with cells:=ob.cells.take n }) o' = some ob'→∃ ob2,H o' = some ob2∧ob'.ver = ob2.ver∧ob'.sz = ob2.sz∧ob'.fz = ob2.fz∧ob'.nl = ob2.nl∧(ob'.sp = ob2.sp∧ob'.mp = ob2.mp)∧∃ m,ob'.cells = ob2.cells.take m:=by
  intro o' ob' e
  by_cases ho':o' = o
  ·subst ho';simp [Hp.put] at e;subst e;exact ⟨ob,ho,rfl,rfl,rfl,rfl,⟨rfl,rfl⟩,n,rfl⟩
  ·simp [Hp.put,ho'] at e;exact ⟨ob',e,rfl,rfl,rfl,rfl,⟨rfl,rfl⟩,ob'.cells.length,by simp⟩
 refine ⟨h.old,h.gok,h.dom,fun o' ob' e=>?_,fun o' ob' e=>?_,fun o1 o2 ob1 ob2 B1 B2 e1 e2 s1 s2 hb=>?_,fun o' ob' ver x e hs=>?_⟩
 ·obtain ⟨ob2,e2,_⟩:=key o' ob' e;exact h.hdom _ _ e2
 ·obtain ⟨ob2,e2,hv,hsz,hf,hn,⟨hsp,hmp⟩,m,hc⟩:=key o' ob' e
  rcases h.obs _ _ e2 with ⟨B,hB,hlo,hob⟩ | ⟨hN,hc2,hn2,hf2⟩ | ⟨B,hB,hB0,hlo,hob⟩
  ·obtain ⟨c,t,hb,hN,hl,hcl⟩:=hob.blk
   refine .inl ⟨B,by rw [hv];exact hB,hlo,⟨by rw [hn];exact hob.nl,hsp.trans hob.sp,hsz.trans hob.sz,⟨c,t,hb,hN,by rw [hc];simp;omega,fun i v hi=>?_⟩,fun i v e=>by rw [hf];exact hob.gsep i v e⟩⟩
   rw [hc,List.getElem?_take] at hi
   split at hi
   ·exact hcl i v hi
   ·cases hi
  ·exact .inr (.inl ⟨by rw [hv];exact hN,by rw [hc,hc2];simp,by rw [hn];exact hn2,hf.trans hf2⟩)
  ·have hcc : ob'.cells = ob2.cells := by rw [hc, hob.nil]; simp
   exact .inr (.inr ⟨B,by rw [hv];exact hB,hB0,hlo,hob.cast hsp (.inl hn) hcc hsz hmp⟩)
 ·obtain ⟨a1,b1,c1,_⟩:=key o1 ob1 e1
  obtain ⟨a2,b2,c2,_⟩:=key o2 ob2 e2
  exact h.inj o1 o2 a1 a2 B1 B2 b1 b2 (by rw [← c1];exact s1) (by rw [← c2];exact s2) hb
 ·obtain ⟨ob2,e2,hv,_⟩:=key o' ob' e
  rw [hv];exact h.vers _ _ _ _ e2 hs
theorem Rel.bumpG {w0 w:World} {G:Gm} {σ:Sg} {H:Hp} {D:Nat→Prop} (h:Rel w0 G σ H D w) {o:Nat} {ob:Ob} (ho:H o = some ob) {B:Option Blk} (hs:σ o ob.ver = some B) :
  ∃ σ',SExt σ σ'∧σ' o (ob.ver+1) = some B∧Rel w0 G σ' (H.put o { ob with ver:=ob.ver+1 }) D w:=by
 have hnone:σ o (ob.ver+1) = none:=by
  cases e:σ o (ob.ver+1) with
  | none=>rfl
  | some x=>have:=h.vers _ _ _ _ ho e;omega
 let σ':Sg:=fun o' ver=>if o' = o∧ver = ob.ver+1 then some B else σ o' ver
 have hse:SExt σ σ':=fun o' ver x e=>by
  by_cases hc:o' = o∧ver = ob.ver+1
  ·rw [hc.1,hc.2,hnone] at e;cases e
  ·simpa [σ',hc] using e
 have key:∀ o' ob',(H.put o { ob with ver:=ob.ver+1 }) o' = some ob'→∃ ob2,H o' = some ob2∧σ' o' ob'.ver = σ o' ob2.ver∧ob'.cells = ob2.cells∧ob'.sz = ob2.sz∧ob'.fz = ob2.fz∧(ob'.nl = ob2.nl∧ob'.sp = ob2.sp∧ob'.mp = ob2.mp)∧∀ ver x,σ' o' ver = some x→ver≤ob'.ver:=by
  intro o' ob' e
  by_cases ho':o' = o
  ·subst ho';simp [Hp.put] at e;subst e
   refine ⟨ob,ho,by simp [σ',hs],rfl,rfl,rfl,⟨rfl,rfl,rfl⟩,fun ver x hx=>?_⟩
   by_cases hv:ver = ob.ver+1
   ·subst hv;exact Nat.le_refl _
   ·simp [σ',hv] at hx;have:=h.vers _ _ _ _ ho hx;show ver≤ob.ver+1;omega
  ·simp [Hp.put,ho'] at e
   refine ⟨ob',e,by simp [σ',ho'],rfl,rfl,rfl,⟨rfl,rfl,rfl⟩,fun ver x hx=>?_⟩
   simp [σ',ho'] at hx
   exact h.vers _ _ _ _ e hx
 refine ⟨σ',hse,by simp [σ'],h.old,h.gok,fun o' ver x e=>?_,fun o' ob' e=>?_,fun o' ob' e=>?_,fun o1 o2 ob1 ob2 B1 B2 e1 e2 s1 s2 hb=>?_,fun o' ob' ver x e hx=>?_⟩
 ·by_cases hc:o' = o∧ver = ob.ver+1
  ·rw [hc.1];exact h.hdom _ _ ho
  ·simp [σ',hc] at e;exact h.dom _ _ _ e
 ·obtain ⟨ob2,e2,_⟩:=key o' ob' e;exact h.hdom _ _ e2
 ·obtain ⟨ob2,e2,hv,hc,hsz,hf,⟨hn,hsp,hmp⟩,_⟩:=key o' ob' e
  rcases h.obs _ _ e2 with ⟨B2,hB,hlo,hob⟩ | ⟨hN,hc2,hn2,hf2⟩ | ⟨B2,hB,hB0,hlo,hob⟩
  ·have hob':=hob.mono hse (w':=w) rfl
   refine .inl ⟨B2,by rw [hv];exact hB,hlo,⟨by rw [hn];exact hob.nl,hsp.trans hob.sp,hsz.trans hob.sz,?_,fun i v e=>by rw [hf];exact hob.gsep i v e⟩⟩
   rw [hc];exact hob'.blk
  ·exact .inr (.inl ⟨by rw [hv];exact hN,hc.trans hc2,by rw [hn];exact hn2,hf.trans hf2⟩)
  ·exact .inr (.inr ⟨B2,by rw [hv];exact hB,hse _ _ _ hB0,hlo,(hob.mono (GExt.refl _) hse rfl).cast hsp (.inl hn) hc hsz hmp⟩)
 ·obtain ⟨a1,b1,c1,_⟩:=key o1 ob1 e1
  obtain ⟨a2,b2,c2,_⟩:=key o2 ob2 e2
  exact h.inj o1 o2 a1 a2 B1 B2 b1 b2 (by rw [← c1];exact s1) (by rw [← c2];exact s2) hb
 ·obtain ⟨_,_,_,_,_,_,_,hv⟩:=key o' ob' e
  exact hv _ _ hx
theorem Rel.bump {w0 w:World} {G:Gm} {σ:Sg} {H:Hp} {D:Nat→Prop} (h:Rel w0 G σ H D w) {o:Nat} {ob:Ob} (ho:H o = some ob) {B:Blk} (hs:σ o ob.ver = some (some B)) :
  ∃ σ',SExt σ σ'∧σ' o (ob.ver+1) = some (some B)∧Rel w0 G σ' (H.put o { ob with ver:=ob.ver+1 }) D w:=h.bumpG ho hs
theorem Rel.move {w0 w:World} {G:Gm} {σ:Sg} {H:Hp} {D:Nat→Prop} (h:Rel w0 G σ H D w) {o:Nat} {ob:Ob} (ho:H o = some ob) (hsp:ob.sp = 0)
  {cells:List V} {arr:Array Value} (hv:∀ (i:Nat) (v:V),cells[i]? = some v→∃ x:Value,arr[i]? = some x∧VR G σ v x∧x.oneCell' = true) (hl:cells.length≤arr.size) (t:TypeId) :
  ∃ σ',SExt σ σ'∧σ' o (ob.ver+1) = some (some ⟨w.heap.size,arr.size,ob.sz⟩)∧Rel w0 G σ' (H.put o { ob with cells:=cells,ver:=ob.ver+1,nl:=0 }) D (w.alloc (.cells arr t)):=by
 have hnone:σ o (ob.ver+1) = none:=by
  cases e:σ o (ob.ver+1) with
  | none=>rfl
  | some x=>have:=h.vers _ _ _ _ ho e;omega
 let σ':Sg:=fun o' ver=>if o' = o∧ver = ob.ver+1 then some (some ⟨w.heap.size,arr.size,ob.sz⟩) else σ o' ver
 have hse:SExt σ σ':=fun o' ver x e=>by
  by_cases hc:o' = o∧ver = ob.ver+1
  ·rw [hc.1,hc.2,hnone] at e;cases e
  ·simpa [σ',hc] using e
 have hnew:(w.alloc (.cells arr t)).heap[w.heap.size]? = some (.cells arr t):=heap_alloc_new w _
 have hold:∀ k,k < w.heap.size→(w.alloc (.cells arr t)).heap[k]? = w.heap[k]?:=fun k hk=>heap_alloc_old w _ k hk
 have hlt:∀ o' ob' B,H o' = some ob'→σ o' ob'.ver = some (some B)→B.b < w.heap.size:=fun o' ob' B e s=>by
  rcases h.obs _ _ e with ⟨B2,hB2,_,hob⟩ | ⟨hn,_⟩ | ⟨B2,hB2,_,_,hob⟩
  ·rw [s] at hB2;cases hB2;exact hob.lt
  ·rw [s] at hn;cases hn
  ·rw [s] at hB2;cases hB2;exact hob.lt
 refine ⟨σ',hse,by simp [σ'],h.old.alloc h.old.size _,?_,fun o' ver x e=>?_,fun o' ob' e=>?_,fun o' ob' e=>?_,fun o1 o2 ob1 ob2 B1 B2 e1 e2 s1 s2 hb=>?_,fun o' ob' ver x e hx=>?_⟩
 ·intro b i v e
  rw [World.cell?_alloc_lt _ _ _ (by simpa using h.gok.lt e)]
  exact h.gok b i v e
 ·by_cases hc:o' = o∧ver = ob.ver+1
  ·rw [hc.1];exact h.hdom _ _ ho
  ·simp [σ',hc] at e;exact h.dom _ _ _ e
 ·by_cases ho':o' = o
  ·subst ho';exact h.hdom _ _ ho
  ·simp [Hp.put,ho'] at e;exact h.hdom _ _ e
 ·by_cases ho':o' = o
  ·subst ho';simp [Hp.put] at e;subst e
   refine .inl ⟨⟨w.heap.size,arr.size,ob.sz⟩,by simp [σ'],h.old.size,⟨by simp,hsp,rfl,⟨arr,t,hnew,rfl,hl,fun i v hi=>?_⟩,fun i v e=>absurd (h.gok.lt e) (Nat.lt_irrefl _)⟩⟩
   obtain ⟨x,hx,hr,h1⟩:=hv i v hi
   exact ⟨x,hx,hr.mono (GExt.refl _) hse,h1⟩
  ·simp [Hp.put,ho'] at e
   rcases h.obs _ _ e with ⟨B2,hB,hlo,hob⟩ | ⟨hN,hr⟩ | ⟨B2,hB,hB0,hlo,hob⟩
   ·exact .inl ⟨B2,by simpa [σ',ho'] using hB,hlo,hob.mono hse (hold _ hob.lt)⟩
   ·exact .inr (.inl ⟨by simpa [σ',ho'] using hN,hr⟩)
   ·exact .inr (.inr ⟨B2,by simpa [σ',ho'] using hB,hse _ _ _ hB0,hlo,hob.mono (GExt.refl _) hse (hold _ hob.lt)⟩)
 ·by_cases h1:o1 = o <;> by_cases h2:o2 = o
  ·rw [h1,h2]
  ·exfalso
   simp [Hp.put,h2] at e2
   simp [σ',h2] at s2
   subst h1;simp [Hp.put] at e1;subst e1
   simp [σ'] at s1;subst s1
   have:=hlt _ _ _ e2 s2;simp at hb;omega
  ·exfalso
   simp [Hp.put,h1] at e1
   simp [σ',h1] at s1
   subst h2;simp [Hp.put] at e2;subst e2
   simp [σ'] at s2;subst s2
   have:=hlt _ _ _ e1 s1;simp at hb;omega
  ·simp [Hp.put,h1] at e1
   simp [Hp.put,h2] at e2
   simp [σ',h1] at s1
   simp [σ',h2] at s2
   exact h.inj _ _ _ _ _ _ e1 e2 s1 s2 hb
 ·by_cases ho':o' = o
  ·subst ho';simp [Hp.put] at e;subst e
   by_cases hv':ver = ob.ver+1
   ·subst hv';exact Nat.le_refl _
   ·simp [σ',hv'] at hx;have:=h.vers _ _ _ _ ho hx;show ver≤ob.ver+1;omega
  ·simp [Hp.put,ho'] at e
   simp [σ',ho'] at hx
   exact h.vers _ _ _ _ e hx
theorem Rel.unnil {w0 w:World} {G:Gm} {σ:Sg} {H:Hp} {D:Nat→Prop} (h:Rel w0 G σ H D w) {o:Nat} {ob:Ob} (ho:H o = some ob) {B:Blk} (hs:σ o ob.ver = some (some B)):Rel w0 G σ (H.put o { ob with nl:=0 }) D w:=by
 have key:∀ o' ob',(H.put o { ob with nl:=0 }) o' = some ob'→∃ ob2,H o' = some ob2∧ob'.ver = ob2.ver∧ob'.cells = ob2.cells∧ob'.sz = ob2.sz∧ob'.fz = ob2.fz∧(ob'.nl = ob2.nl∨(o' = o∧ob'.nl = 0∧ob2 = ob))∧ob'.sp = ob2.sp∧ob'.mp = ob2.mp:=by
  intro o' ob' e
  by_cases ho':o' = o
  ·subst ho';simp [Hp.put] at e;subst e;exact ⟨ob,ho,rfl,rfl,rfl,rfl,.inr ⟨rfl,rfl,rfl⟩,rfl,rfl⟩
  ·simp [Hp.put,ho'] at e;exact ⟨ob',e,rfl,rfl,rfl,rfl,.inl rfl,rfl,rfl⟩
 refine ⟨h.old,h.gok,h.dom,fun o' ob' e=>?_,fun o' ob' e=>?_,fun o1 o2 ob1 ob2 B1 B2 e1 e2 s1 s2 hb=>?_,fun o' ob' ver x e hs=>?_⟩
 ·obtain ⟨ob2,e2,_⟩:=key o' ob' e;exact h.hdom _ _ e2
 ·obtain ⟨ob2,e2,hv,hc,hsz,hf,hn,hsp,hmp⟩:=key o' ob' e
  rcases h.obs _ _ e2 with ⟨B2,hB,hlo,hob⟩ | ⟨hN,hc2,hn2,hf2⟩ | ⟨B2,hB,hB0,hlo,hob⟩
  rotate_left 2
  ·exact .inr (.inr ⟨B2,by rw [hv];exact hB,hB0,hlo,hob.cast hsp (hn.imp id (·.2.1)) hc hsz hmp⟩)
  ·refine .inl ⟨B2, by rw [hv]; exact hB, hlo, ⟨?_, hsp.trans hob.sp, hsz.trans hob.sz, by rw [hc]; exact hob.blk, fun i v e => by rw [hf]; exact hob.gsep i v e⟩⟩
   rcases hn with hn | ⟨_,hn,_⟩
   ·rw [hn];exact hob.nl
   ·rw [hn];simp
  ·rcases hn with hn | ⟨rfl,_,rfl⟩
   ·exact .inr (.inl ⟨by rw [hv];exact hN,hc.trans hc2,by rw [hn];exact hn2,hf.trans hf2⟩)
   ·rw [hs] at hN;cases hN
 ·obtain ⟨a1,b1,c1,_⟩:=key o1 ob1 e1
  obtain ⟨a2,b2,c2,_⟩:=key o2 ob2 e2
  exact h.inj o1 o2 a1 a2 B1 B2 b1 b2 (by rw [← c1];exact s1) (by rw [← c2];exact s2) hb
 ·obtain ⟨ob2,e2,hv,_⟩:=key o' ob' e
  rw [hv];exact h.vers _ _ _ _ e2 hs
def isC:Obj→Bool
 | .cells .. | .map .. | .loop _=>true
 | _=>false
structure NC (w w':World):Prop where
 size:w.heap.size≤w'.heap.size
 oth:∀ (b:Nat) (o:Obj),w.heap[b]? = some o→isC o = false→w'.heap[b]? = some o
 lp:∀ (b:Nat) (r:Loop),w.heap[b]? = some (.loop r)→∃ s p,w'.heap[b]? = some (.loop { r with state:=s,pending:=p })
theorem NC.of_eq {w w':World} (hz:w.heap.size≤w'.heap.size) (h:∀ (b:Nat) (o:Obj),w.heap[b]? = some o→(∀ (c:Array Value) (t:TypeId) (fr:Nat × Nat),o≠Obj.cells c t fr)→w'.heap[b]? = some o):NC w w' :=
 ⟨hz,fun b o e hc=>h b o e (fun c t fr e2=>by subst e2;cases hc),fun b r e=>⟨r.state,r.pending,h b _ e (fun c t fr e2=>by cases e2)⟩⟩
theorem NC.refl (w:World):NC w w:=.of_eq (Nat.le_refl _) fun _ _ h _=>h
theorem NC.trans {a b c:World} (h:NC a b) (k:NC b c):NC a c:=⟨Nat.le_trans h.size k.size,fun i o e hc=>k.oth i o (h.oth i o e hc) hc,fun i r e=>by
 obtain ⟨s,p,h1⟩:=h.lp i r e
 obtain ⟨s',p',h2⟩:=k.lp i _ h1
 exact ⟨s',p',h2⟩⟩
theorem NC.alloc (w : World) (o : Obj) : NC w (w.alloc o) := .of_eq (by simp) fun b o' h _ => by
 rw [heap_alloc_old w o b (Array.getElem?_eq_some_iff.1 h).1];exact h
theorem NC.setRow {w : World} {g : Nat} {cur : Array Value} {t : TypeId} {fr : Nat × Nat} (hg : w.heap[g]? = some (.cells cur t fr)) (cs : Array Value) : NC w (w.setRow g cs) := .of_eq (by simp [World.setRow]) fun b o h hc => by
 by_cases hb:b = g
 ·subst hb;rw [hg] at h;cases h;exact absurd rfl (hc _ _ _)
 ·rw [setRow_other w g b cs hb];exact h
theorem NC.of_below {w w':World} (h:Below w.heap.size w w'):NC w w':=.of_eq h.size fun b o e _=>by
 rw [h.block b (Array.getElem?_eq_some_iff.1 e).1];exact e
theorem NC.drewAlloc (w:World) (o:Obj):NC w (({ w with drawn:=w.drawn+1 }:World).alloc o):=(NC.of_eq (w:=w) (w':={ w with drawn:=w.drawn+1 }) (Nat.le_refl _) fun _ _ h _=>h).trans (NC.alloc _ o)
theorem NC.of_heap {w w':World} (h:w'.heap = w.heap):NC w w':=.of_eq (by rw [h];exact Nat.le_refl _) fun b o e _=>by rw [h];exact e
section
variable {w w0:World} {G:Gm} {σ:Sg} {H H':Hp} {D:Nat→Prop}
theorem Rel.adoptNil (h:Rel w0 G σ H D w) {id:Nat} (hid:¬ D id) (sz nl:Nat) (hnl:nl≠0) :
  ∃ σ',SExt σ σ'∧σ' id 0 = some none∧(∀ o,o≠id→σ' o = σ o)∧Rel w0 G σ' (H.put id { cells:=[],sz,nl }) (fun o=>D o∨o = id) w:=by
 have hnone:∀ ver,σ id ver = none:=fun ver=>by
  cases e:σ id ver with
  | none=>rfl
  | some x=>exact absurd (h.dom _ _ _ e) hid
 let σ':Sg:=fun o ver=>if o = id then (if ver = 0 then some none else none) else σ o ver
 have hse:SExt σ σ':=fun o ver x e=>by
  by_cases ho:o = id
  ·subst ho;rw [hnone] at e;cases e
  ·simpa [σ',ho] using e
 refine ⟨σ',hse,by simp [σ'],(fun o ho=>by funext ver;simp [σ',ho]),⟨h.old,h.gok,?_,?_,?_,?_,?_⟩⟩
 ·intro o ver x e
  by_cases ho:o = id
  ·exact .inr ho
  ·simp [σ',ho] at e;exact .inl (h.dom _ _ _ e)
 ·intro o ob e
  by_cases ho:o = id
  ·exact .inr ho
  ·simp [Hp.put,ho] at e;exact .inl (h.hdom _ _ e)
 ·intro o ob e
  by_cases ho:o = id
  ·subst ho
   simp [Hp.put] at e
   subst e
   exact .inr (.inl ⟨by simp [σ'],rfl,hnl,rfl⟩)
  ·simp [Hp.put,ho] at e
   rcases h.obs o ob e with ⟨B,hB,hlo,hob⟩ | ⟨hn,hr⟩ | ⟨B,hB,hB0,hlo,hob⟩
   ·exact .inl ⟨B,hse _ _ _ hB,hlo,hob.mono hse rfl⟩
   ·exact .inr (.inl ⟨hse _ _ _ hn,hr⟩)
   ·exact .inr (.inr ⟨B,hse _ _ _ hB,hse _ _ _ hB0,hlo,hob.mono (GExt.refl _) hse rfl⟩)
 ·intro o o' ob ob' B B' e e' hs hs' hbb
  by_cases ho:o = id
  ·exfalso
   subst ho
   simp [Hp.put] at e;subst e
   simp [σ'] at hs
  ·by_cases ho':o' = id
   ·exfalso
    subst ho'
    simp [Hp.put] at e';subst e'
    simp [σ'] at hs'
   ·simp [Hp.put,ho] at e
    simp [Hp.put,ho'] at e'
    simp [σ',ho] at hs
    simp [σ',ho'] at hs'
    exact h.inj o o' ob ob' B B' e e' hs hs' hbb
 ·intro o ob ver x e hs
  by_cases ho:o = id
  ·subst ho
   simp [Hp.put] at e;subst e
   simp [σ'] at hs
   simp [hs.1]
  ·simp [Hp.put,ho] at e
   simp [σ',ho] at hs
   exact h.vers o ob ver x e hs
end
end Go.Dp
