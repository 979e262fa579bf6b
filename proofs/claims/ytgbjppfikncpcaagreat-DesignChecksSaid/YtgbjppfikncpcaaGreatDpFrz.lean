/- Freezing: a value is made deep; what it reaches is written no more. Results: what is the call's own, and whole, goes out as one's own. -/
import Derived.Test.YtgbjppfikncpcaaGreatDpStep
namespace Go.Dp
open Go.RowKit
set_option linter.unusedSimpArgs false
def V.atom:V→Bool
 | .bool _ | .int _ _ | .str _ | .nilp | .nils | .nilm | .nilf | .nili | .sl _ _ | .fp _ _=>true
 | _=>false
def mapS (f:V→Hp→Option (V × Hp)):List V→Hp→Option (List V × Hp)
 | [],H=>some ([],H)
 | v::l,H=>(f v H).bind fun r=>(mapS f l r.2).map fun q=>(r.1::q.1,q.2)
def Hp.mark (H:Hp) (o k:Nat):Hp:=match H o with | some ob=>H.put o { ob with fz:=max ob.fz k } | none=>H
def frz:Nat→V→Hp→Option (V × Hp)
 | 0,v,H=>if v.atom then some (v,H) else none
 | n+1,v,H=>match v with
  | .ref o ver off len=>match H o with
   | some ob=>if ob.ver = ver∧off+len * ob.sz≤ob.cells.length∧ob.sp = 0 then (mapS (frz n) ((ob.cells.drop off).take (len * ob.sz)) H).map fun r=>(.sl r.1 len,r.2.mark o (off+len * ob.sz))
     else none
   | none=>none
  | .ptr o ver off=>match H o with
   | some ob=>if ob.ver = ver∧ob.sp = 0 then (mapS (frz n) ob.cells H).map fun r=>(.fp r.1 off,r.2.mark o ob.cells.length) else none
   | none=>none
  | .clo fn f c=>(mapS (frz n) f H).bind fun r=>(mapS (frz n) c r.2).map fun q=>(.clo fn r.1 q.1,q.2)
  | .ifc t v=>(frz n v H).map fun r=>(.ifc t r.1,r.2)
  | .agg l=>(mapS (frz n) l H).map fun r=>(.agg r.1,r.2)
  | .tup l=>(mapS (frz n) l H).map fun r=>(.tup r.1,r.2)
  | v=>if v.atom then some (v,H) else none
def HEx (H H':Hp):Prop:=(∀ o ob,H o = some ob→∃ k,ob.fz≤k∧H' o = some { ob with fz:=k })∧(∀ o ob,H' o = some ob→∃ k,k≤ob.fz∧H o = some { ob with fz:=k })
theorem HEx.refl (H:Hp):HEx H H:=⟨fun _ ob h=>⟨ob.fz,Nat.le_refl _,h⟩,fun _ ob h=>⟨ob.fz,Nat.le_refl _,h⟩⟩
theorem HEx.trans {a b c:Hp} (h:HEx a b) (k:HEx b c):HEx a c :=
 ⟨fun o ob e => by obtain ⟨n, hn, e2⟩ := h.1 o ob e; obtain ⟨m, hm, e3⟩ := k.1 o _ e2; exact ⟨m, Nat.le_trans hn hm, e3⟩,
  fun o ob e=>by obtain ⟨n,hn,e2⟩:=k.2 o ob e;obtain ⟨m,hm,e3⟩:=h.2 o _ e2;exact ⟨m,Nat.le_trans hm hn,e3⟩⟩
theorem HEx.mark (H:Hp) (o k:Nat):HEx H (H.mark o k):=by
 unfold Hp.mark
 cases ho:H o with
 | none=>exact HEx.refl H
 | some ob =>
  refine ⟨fun o' ob' e=>?_,fun o' ob' e=>?_⟩
  ·by_cases h:o' = o
   ·subst h;rw [ho] at e;cases e;exact ⟨max ob.fz k,Nat.le_max_left _ _,by simp [Hp.put]⟩
   ·exact ⟨ob'.fz,Nat.le_refl _,by simp [Hp.put,h,e]⟩
  ·by_cases h:o' = o
   ·subst h;simp [Hp.put] at e;subst e;exact ⟨ob.fz,Nat.le_max_left _ _,by simp [ho]⟩
   ·simp [Hp.put,h] at e;exact ⟨ob'.fz,Nat.le_refl _,e⟩
section
variable {w w0:World} {G:Gm} {σ:Sg} {H H':Hp} {D:Nat→Prop}
theorem Rel.mark (h:Rel w0 G σ H D w) {o:Nat} {ob:Ob} (ho:H o = some ob) {B:Blk} (hB:σ o ob.ver = some (some B)) (lo hi:Nat) :
  ∃ G',GExt G G'∧(∀ b i v,G' b i = some v→G b i = some v∨b = B.b)∧Rel w0 G' σ (H.mark o hi) D w∧∀ i v,lo≤i→i < hi→w.cell? ⟨B.b,i,none⟩ = some v→G' B.b i = some v:=by
 let G':Gm:=fun b i=>if b = B.b∧lo≤i∧i < hi then w.cell? ⟨b,i,none⟩ else G b i
 have hG:GExt G G':=fun b i v e=>by
  by_cases hc:b = B.b∧lo≤i∧i < hi
  ·simp only [G',hc,and_self,if_true];rw [← hc.1];exact h.gok b i v e
  ·simp only [G',hc,if_false];exact e
 have hm:H.mark o hi = H.put o { ob with fz:=max ob.fz hi }:=by unfold Hp.mark;rw [ho]
 have key:∀ o' ob',(H.mark o hi) o' = some ob'→∃ ob2,H o' = some ob2∧ob'.ver = ob2.ver∧ob'.cells = ob2.cells∧ob'.sz = ob2.sz∧(ob'.nl = ob2.nl∧ob'.sp = ob2.sp∧ob'.mp = ob2.mp)∧(ob'.fz = ob2.fz∨(o' = o∧ob2 = ob∧ob'.fz = max ob.fz hi)):=by
  intro o' ob' e
  rw [hm] at e
  by_cases ho':o' = o
  ·subst ho';simp [Hp.put] at e;subst e;exact ⟨ob,ho,rfl,rfl,rfl,⟨rfl,rfl,rfl⟩,.inr ⟨rfl,rfl,rfl⟩⟩
  ·simp [Hp.put,ho'] at e;exact ⟨ob',e,rfl,rfl,rfl,⟨rfl,rfl,rfl⟩,.inl rfl⟩
 refine ⟨G',hG,fun b i v e=>?_,⟨h.old,fun b i v e=>?_,h.dom,fun o' ob' e=>?_,fun o' ob' e=>?_,fun o1 o2 ob1 ob2 B1 B2 e1 e2 s1 s2 hb=>?_,fun o' ob' ver x e hs=>?_⟩,fun i v h1 h2 e=>?_⟩
 ·by_cases hc:b = B.b∧lo≤i∧i < hi
  ·exact .inr hc.1
  ·simp only [G',hc,if_false] at e;exact .inl e
 ·by_cases hc:b = B.b∧lo≤i∧i < hi
  ·simp only [G',hc,and_self,if_true] at e;rw [hc.1];exact e
  ·simp only [G',hc,if_false] at e;exact h.gok _ _ _ e
 ·obtain ⟨ob2,e2,_⟩:=key o' ob' e;exact h.hdom _ _ e2
 ·obtain ⟨ob2,e2,hv,hc,hsz,⟨hn,hsp,hmp⟩,hf⟩:=key o' ob' e
  rcases h.obs _ _ e2 with ⟨B2,hB2,hlo2,hob⟩ | ⟨hN,hc2,hn2,hf2⟩ | ⟨B2,hB2,hB0,hlo2,hob⟩
  rotate_left 2
  ·exact .inr (.inr ⟨B2,by rw [hv];exact hB2,hB0,hlo2,(hob.mono hG (SExt.refl _) rfl).cast hsp (.inl hn) hc hsz hmp⟩)
  ·obtain ⟨c,t,hb,hN,hl,hcl⟩:=hob.blk
   refine .inl ⟨B2,by rw [hv];exact hB2,hlo2,⟨by rw [hn];exact hob.nl,hsp.trans hob.sp,hsz.trans hob.sz,⟨c,t,hb,hN,by rw [hc];exact hl,fun i v hi=>?_⟩,fun i v eg=>?_⟩⟩
   ·rw [hc] at hi
    obtain ⟨x,hx,hr,h1⟩:=hcl i v hi
    exact ⟨x,hx,hr.mono hG (SExt.refl _),h1⟩
   ·by_cases hcc:B2.b = B.b∧lo≤i∧i < hi
    ·have hoo:o' = o:=h.inj _ _ _ _ _ _ e2 ho hB2 hB hcc.1
     subst hoo
     rcases hf with hf | ⟨_,_,hf⟩
     ·have : (H.mark o' hi) o' = some { ob with fz := max ob.fz hi } := by rw [hm]; simp [Hp.put]
      rw [this] at e;cases e
      show i < max ob.fz hi
      omega
     ·rw [hf];omega
    ·simp only [G',hcc,if_false] at eg
     have:=hob.gsep i v eg
     rcases hf with hf | ⟨_,rfl,hf⟩
     ·rw [hf];exact this
     ·rw [hf];omega
  ·rcases hf with hf | ⟨rfl,rfl,_⟩
   ·exact .inr (.inl ⟨by rw [hv];exact hN,hc.trans hc2,by rw [hn];exact hn2,hf.trans hf2⟩)
   ·rw [hB] at hN;cases hN
 ·obtain ⟨a1,b1,c1,_⟩:=key o1 ob1 e1
  obtain ⟨a2,b2,c2,_⟩:=key o2 ob2 e2
  exact h.inj o1 o2 a1 a2 B1 B2 b1 b2 (by rw [← c1];exact s1) (by rw [← c2];exact s2) hb
 ·obtain ⟨ob2,e2,hv,_⟩:=key o' ob' e
  rw [hv];exact h.vers _ _ _ _ e2 hs
 ·simp only [G',h1,h2,and_self,if_true];exact e
theorem atom_dr {v:V} {x:Value} (ha:v.atom = true) (h:VR G σ v x):DR G v x:=by
 cases h with
 | deep h=>exact h
 | _=>simp [V.atom] at ha
def Lives (σ:Sg) (H:Hp) (b:Nat):Prop:=∃ o ob B,H o = some ob∧σ o ob.ver = some (some B)∧B.b = b
def FOut (w0 w:World) (G:Gm) (σ:Sg) (H H':Hp) (D:Nat→Prop) (P:Gm→Prop):Prop :=
 HEx H H'∧∃ G',GExt G G'∧(∀ b i v,G' b i = some v→G b i = some v∨Lives σ H b)∧Rel w0 G' σ H' D w∧P G'
theorem Lives.back {σ:Sg} {H H':Hp} {b:Nat} (h:Lives σ H' b) (hx:HEx H H'):Lives σ H b:=by
 obtain ⟨o,ob,B,ho,hB,hb⟩:=h
 obtain ⟨k,_,e⟩:=hx.2 _ _ ho
 exact ⟨o,_,B,e,hB,hb⟩
theorem mapS_sound {f:V→Hp→Option (V × Hp)} (hf:∀ (v:V) (x:Value) (d:V) (G:Gm) (H H':Hp),f v H = some (d,H')→Rel w0 G σ H D w→VR G σ v x→FOut w0 w G σ H H' D (fun G'=>DR G' d x)) :
  ∀ {l:List V} {vs:List Value} {ds:List V} {G:Gm} {H H':Hp},mapS f l H = some (ds,H')→Rel w0 G σ H D w→VRL G σ l vs→FOut w0 w G σ H H' D (fun G'=>DRL G' ds vs)
 | [],_,ds,G,H,H',h,hrel,.nil=>by
  simp [mapS] at h;obtain ⟨rfl,rfl⟩:=h
  exact ⟨HEx.refl _,G,GExt.refl _,fun b i v e=>.inl e,hrel,.nil⟩
 | v::l,_,ds,G,H,H',h,hrel,.cons hv ht=>by
  simp only [mapS,Option.bind_eq_some_iff,Option.map_eq_some_iff] at h
  obtain ⟨⟨d,H1⟩,h1,⟨ds',H2⟩,h2,e⟩:=h
  cases e
  obtain ⟨hx1,G1,hG1,hn1,hr1,hd1⟩:=hf _ _ _ _ _ _ h1 hrel hv
  obtain ⟨hx2,G2,hG2,hn2,hr2,hd2⟩:=mapS_sound hf h2 hr1 (ht.mono hG1 (SExt.refl _))
  exact ⟨hx1.trans hx2,G2,hG1.trans hG2,fun b i v e=>(hn2 b i v e).elim (fun e=>hn1 b i v e) (fun hl=>.inr (hl.back hx1)),hr2,.cons (hd1.mono hG2) hd2⟩
theorem VR.clo_inv {fn:Fn} {f c:List V} {x:Value} (h:VR G σ (.clo fn f c) x):∃ vf vc,x = .func fn vf.toArray vc.toArray∧VRL G σ f vf∧VRL G σ c vc:=by
 cases h with
 | deep h=>cases h with | clo h1 h2=>exact ⟨_,_,rfl,h1.vrl,h2.vrl⟩
 | clo h1 h2=>exact ⟨_,_,rfl,h1,h2⟩
theorem VR.ifc_inv {t:TypeId} {v:V} {x:Value} (h:VR G σ (.ifc t v) x):∃ y,x = .iface t y∧VR G σ v y:=by
 cases h with
 | deep h=>cases h with | ifc h=>exact ⟨_,rfl,.deep h⟩
 | ifc h=>exact ⟨_,rfl,h⟩
theorem frz_sound:∀ (n:Nat) (v:V) (x:Value) (d:V) (G:Gm) (H H':Hp),frz n v H = some (d,H')→Rel w0 G σ H D w→VR G σ v x→FOut w0 w G σ H H' D (fun G'=>DR G' d x)
 | 0,v,x,d,G,H,H',h,hrel,hv=>by
  simp only [frz] at h
  split at h
  ·rename_i ha;cases h
   exact ⟨HEx.refl _,G,GExt.refl _,fun b i v e=>.inl e,hrel,atom_dr ha hv⟩
  ·cases h
 | n+1,v,x,d,G,H,H',h,hrel,hv=>by
  simp only [frz] at h
  split at h
  ·rename_i o ver off len
   split at h
   ·rename_i ob ho
    split at h
    ·rename_i hc
     obtain ⟨c1,c2,c3⟩:=hc
     subst c1
     simp only [Option.map_eq_some_iff] at h
     obtain ⟨⟨ds,H1⟩,hm,e⟩:=h
     cases e
     rcases hrel.obs _ _ ho with ⟨B,hB,hlo,hOb⟩ | ⟨hN,hcn,hnl,hfz⟩ | ⟨_,_,_,_,hOb⟩
     rotate_left 2
     ·exact absurd c3 hOb.sp
     ·cases hv with
      | deep h=>cases h
      | ref0 hs=>rw [hB] at hs;cases hs
      | ref hs hcc hN =>
       rename_i cap B2
       rw [hB] at hs;cases hs
       obtain ⟨cur,tt,hb,hNN,hll,hcl⟩:=hOb.blk
       obtain ⟨vs,hvs,hones,hread⟩:=cells_list (f:=fun i=>w.cell? ⟨B.b,off+i,none⟩) (l:=(ob.cells.drop off).take (len * ob.sz)) (fun i u hu=>by
        obtain ⟨h1,_⟩:=take_get _ _ _ _ _ hu
        obtain ⟨y,hy,hr,h1'⟩:=hcl _ _ h1
        exact ⟨y,by simp [World.cell?,hb,hy],hr,h1'⟩)
       obtain ⟨hx1,G1,hG1,hn1,hr1,hd1⟩:=mapS_sound (frz_sound n) hm hrel hvs
       obtain ⟨k,hk,ho1⟩:=hx1.1 _ _ ho
       obtain ⟨G2,hG2,hn2,hr2,hread2⟩:=hr1.mark ho1 hB off (off+len * ob.sz)
       refine ⟨hx1.trans (HEx.mark _ _ _),G2,hG1.trans hG2,fun b i v e=>(hn2 b i v e).elim (fun e=>hn1 b i v e) (fun hb=>.inr ⟨_,_,_,ho,hB,hb.symm⟩),hr2,?_⟩
       refine .sl (hd1.mono hG2) (fun i y hy=>?_) hcc hones
       have hlt:i < len * ob.sz:=by
        have h1:=(List.getElem?_eq_some_iff.1 hy).1
        rw [← hvs.length] at h1;simp at h1;omega
       exact hread2 _ _ (by omega) (by omega) (hread i y hy)
     ·cases hv with
      | deep h=>cases h
      | ref hs _ _=>rw [hN] at hs;cases hs
      | ref0 hs =>
       simp only [Nat.zero_mul,List.take_zero,mapS,Option.some.injEq,Prod.mk.injEq] at hm
       obtain ⟨rfl,rfl⟩:=hm
       have hmk:H.mark o (0+0 * ob.sz) = H:=by
        unfold Hp.mark
        simp only [ho]
        funext o'
        simp only [Hp.put]
        split
        ·rename_i he;rw [he,ho]
         simp
        ·rfl
       rw [hmk]
       exact ⟨HEx.refl _,G,GExt.refl _,fun b i v e=>.inl e,hrel,.sl0 _ _⟩
    ·cases h
   ·cases h
  ·rename_i o ver off
   split at h
   ·rename_i ob ho
    split at h
    ·rename_i c1
     obtain ⟨c1,c2⟩:=c1
     simp only [Option.map_eq_some_iff] at h
     obtain ⟨⟨ds,H1⟩,hm,e⟩:=h
     cases e
     obtain ⟨B,hB,hX,hlo,hOb⟩:=ptr_obj hrel hv ho c1 (.inr c2)
     obtain ⟨cur,tt,hb,hNN,hll,hcl⟩:=hOb.blk
     obtain ⟨vs,hvs,hones,hread⟩:=cells_list (f:=fun i=>w.cell? ⟨B.b,i,none⟩) (l:=ob.cells) (fun i u hu=>by
      obtain ⟨y,hy,hr,h1'⟩:=hcl _ _ hu
      exact ⟨y,by simp [World.cell?,hb,hy],hr,h1'⟩)
     obtain ⟨hx1,G1,hG1,hn1,hr1,hd1⟩:=mapS_sound (frz_sound n) hm hrel hvs
     obtain ⟨k,hk,ho1⟩:=hx1.1 _ _ ho
     obtain ⟨G2,hG2,hn2,hr2,hread2⟩:=hr1.mark ho1 hB 0 ob.cells.length
     refine ⟨hx1.trans (HEx.mark _ _ _),G2,hG1.trans hG2,fun b i v e=>(hn2 b i v e).elim (fun e=>hn1 b i v e) (fun hb=>.inr ⟨_,_,_,ho,hB,hb.symm⟩),hr2,?_⟩
     rw [hX]
     have:=DR.fp (G:=G2) (b:=B.b) (o:=0) (off:=off) (hd1.mono hG2) (fun i y hy=>by
      have hlt:i < ob.cells.length:=by
       have h1:=(List.getElem?_eq_some_iff.1 hy).1
       rw [← hvs.length] at h1;exact h1
      rw [Nat.zero_add]
      exact hread2 _ _ (Nat.zero_le _) hlt (hread i y hy)) hones
     simpa using this
    ·cases h
   ·cases h
  ·simp only [Option.bind_eq_some_iff,Option.map_eq_some_iff] at h
   obtain ⟨⟨f',H1⟩,h1,⟨c',H2⟩,h2,e⟩:=h
   cases e
   obtain ⟨vf,vc,rfl,hf,hc⟩:=hv.clo_inv
   obtain ⟨hx1,G1,hG1,hn1,hr1,hd1⟩:=mapS_sound (frz_sound n) h1 hrel hf
   obtain ⟨hx2,G2,hG2,hn2,hr2,hd2⟩:=mapS_sound (frz_sound n) h2 hr1 (hc.mono hG1 (SExt.refl _))
   exact ⟨hx1.trans hx2,G2,hG1.trans hG2,fun b i v e=>(hn2 b i v e).elim (fun e=>hn1 b i v e) (fun hl=>.inr (hl.back hx1)),hr2,.clo (hd1.mono hG2) hd2⟩
  ·simp only [Option.map_eq_some_iff] at h
   obtain ⟨⟨v',H1⟩,h1,e⟩:=h
   cases e
   obtain ⟨y,rfl,hy⟩:=hv.ifc_inv
   obtain ⟨hx1,G1,hG1,hn1,hr1,hd1⟩:=frz_sound n _ _ _ _ _ _ h1 hrel hy
   exact ⟨hx1,G1,hG1,hn1,hr1,.ifc hd1⟩
  ·simp only [Option.map_eq_some_iff] at h
   obtain ⟨⟨l',H1⟩,h1,e⟩:=h
   cases e
   obtain ⟨vs,rfl,hl,hones⟩:=hv.agg_inv
   obtain ⟨hx1,G1,hG1,hn1,hr1,hd1⟩:=mapS_sound (frz_sound n) h1 hrel hl
   exact ⟨hx1,G1,hG1,hn1,hr1,.agg hd1 hones⟩
  ·simp only [Option.map_eq_some_iff] at h
   obtain ⟨⟨l',H1⟩,h1,e⟩:=h
   cases e
   obtain ⟨vs,rfl,hl⟩:=hv.tup_inv
   obtain ⟨hx1,G1,hG1,hn1,hr1,hd1⟩:=mapS_sound (frz_sound n) h1 hrel hl
   exact ⟨hx1,G1,hG1,hn1,hr1,.tup hd1⟩
  ·split at h
   ·rename_i ha;cases h
    exact ⟨HEx.refl _,G,GExt.refl _,fun b i v e=>.inl e,hrel,atom_dr ha hv⟩
   ·cases h
inductive Sh where
 | x
 | s (sz:Nat)
 | l (cells:List Sh)
 deriving Inhabited
def finL (f:Sh→V→Hp→Option (V × Hp)):List Sh→List V→Hp→Option (List V × Hp)
 | _,[],H=>some ([],H)
 | sh,v::l,H=>(f (sh.headD .x) v H).bind fun r=>(finL f sh.tail l r.2).map fun q=>(r.1::q.1,q.2)
def finRef (o len sz:Nat) (cs:List V) (H:Hp):Option (V × Hp) :=
 match H o with
 | some ob=>if ob.fz = 0 then some (.own cs len sz,H.del o) else none
 | none=>none
def fin:Nat→Sh→V→Hp→Option (V × Hp)
 | 0,_,v,H=>frz 0 v H
 | n+1,sh,v,H=>match sh,v with
  | .s sz,.nils=>some (.own [] 0 sz,H)
  | .s sz,.ref o ver off len=>match H o with
   | some ob=>if ob.ver = ver∧ob.sz = sz∧off = 0∧ob.fz = 0∧len * sz≤ob.cells.length∧ob.sp = 0 then (mapS (frz n) (ob.cells.take (len * sz)) H).bind fun r=>finRef o len sz r.1 r.2 else frz (n+1) v H
   | none=>none
  | .l shs,.agg cs=>(finL (fin n) shs cs H).map fun r=>(.agg r.1,r.2)
  | .l shs,.tup cs=>(finL (fin n) shs cs H).map fun r=>(.tup r.1,r.2)
  | _,_=>frz (n+1) v H
mutual
inductive OwnR (G:Gm) (w:World) (lo:Nat):V→Value→List Nat→Prop
 | deep {v:V} {x:Value} (h:DR G v x):OwnR G w lo v x []
 | own0 (sz:Nat):OwnR G w lo (.own [] 0 sz) (.slice none 0 0) []
 | own {cells:List V} {len sz b c:Nat} {arr:Array Value} {t:TypeId} (h1:lo≤b) (h2:w.heap[b]? = some (.cells arr t (0,0))) (h3:∀ o v,G b o≠some v) (h4:len≤c) (h5:c * sz≤arr.size)
   (h6:cells.length≤arr.size) (h7:∀ (i:Nat) (v:V),cells[i]? = some v→∃ x:Value,arr[i]? = some x∧DR G v x∧x.oneCell' = true):OwnR G w lo (.own cells len sz) (.slice (some ⟨b,0,none⟩) len c) [b]
 | agg {cells:List V} {vs:List Value} {bs:List Nat} (h:OwnRL G w lo cells vs bs) (h1:Ones vs):OwnR G w lo (.agg cells) (.agg vs.toArray) bs
 | tup {cells:List V} {vs:List Value} {bs:List Nat} (h:OwnRL G w lo cells vs bs):OwnR G w lo (.tup cells) (.tuple vs.toArray) bs
inductive OwnRL (G:Gm) (w:World) (lo:Nat):List V→List Value→List Nat→Prop
 | nil:OwnRL G w lo [] [] []
 | cons {v:V} {x:Value} {l:List V} {m:List Value} {b1 b2:List Nat} (h:OwnR G w lo v x b1) (t:OwnRL G w lo l m b2):OwnRL G w lo (v::l) (x::m) (b1++b2)
end
def Clear (G G':Gm) (bs:List Nat):Prop:=∀ b∈bs,∀ o v,G' b o = some v→G b o = some v
mutual
theorem OwnR.mono {G G':Gm} {lo:Nat} (hG:GExt G G'):∀ {v:V} {x:Value} {bs:List Nat},Clear G G' bs→OwnR G w lo v x bs→OwnR G' w lo v x bs
 | _,_,_,_,.deep h=>.deep (h.mono hG)
 | _,_,_,_,.own0 sz=>.own0 sz
 | _,_,_,hc,.own h1 h2 h3 h4 h5 h6 h7=>.own h1 h2 (fun o v e=>h3 o v (hc _ (by simp) o v e)) h4 h5 h6 (fun i v e=>let ⟨x,hx,hr,ho⟩:=h7 i v e;⟨x,hx,hr.mono hG,ho⟩)
 | _,_,_,hc,.agg h h1=>.agg (OwnRL.mono hG hc h) h1
 | _,_,_,hc,.tup h=>.tup (OwnRL.mono hG hc h)
theorem OwnRL.mono {G G':Gm} {lo:Nat} (hG:GExt G G'):∀ {v:List V} {x:List Value} {bs:List Nat},Clear G G' bs→OwnRL G w lo v x bs→OwnRL G' w lo v x bs
 | _,_,_,_,.nil=>.nil
 | _,_,_,hc,.cons h t=>.cons (OwnR.mono hG (fun b hb=>hc b (List.mem_append_left _ hb)) h) (OwnRL.mono hG (fun b hb=>hc b (List.mem_append_right _ hb)) t)
end
def Away (σ:Sg) (H:Hp) (bs:List Nat):Prop:=∀ b∈bs,¬ Lives σ H b
def HSub (σ:Sg) (H H':Hp):Prop:=∀ b,Lives σ H' b→Lives σ H b
theorem Rel.del (h:Rel w0 G σ H D w) (o:Nat):Rel w0 G σ (H.del o) D w:=by
 have key:∀ o' ob',(H.del o) o' = some ob'→H o' = some ob':=fun o' ob' e=>by
  unfold Hp.del at e;split at e
  ·cases e
  ·exact e
 exact ⟨h.old,h.gok,h.dom,fun o' ob' e=>h.hdom _ _ (key _ _ e),fun o' ob' e=>h.obs _ _ (key _ _ e),fun o1 o2 ob1 ob2 B1 B2 e1 e2=>h.inj o1 o2 ob1 ob2 B1 B2 (key _ _ e1) (key _ _ e2),fun o' ob' ver x e=>h.vers _ _ _ _ (key _ _ e)⟩
def FinOut (w0 w:World) (G:Gm) (σ:Sg) (H H':Hp) (D:Nat→Prop) (P:Gm→List Nat→Prop):Prop :=
 HSub σ H H'∧∃ G' bs,GExt G G'∧(∀ b i v,G' b i = some v→G b i = some v∨Lives σ H b)∧Rel w0 G' σ H' D w∧(∀ b∈bs,Lives σ H b)∧Away σ H' bs∧bs.Nodup∧P G' bs
theorem FOut.fin {v:V} {x:Value} (h:FOut w0 w G σ H H' D (fun G'=>DR G' v x)):FinOut w0 w G σ H H' D (fun G' bs=>OwnR G' w w0.heap.size v x bs):=by
 obtain ⟨hx,G',hG,hn,hr,hd⟩:=h
 exact ⟨fun b hl=>hl.back hx,G',[],hG,hn,hr,(fun b hb=>by cases hb),(fun b hb=>by cases hb),List.nodup_nil,.deep hd⟩
theorem finL_sound {f:Sh→V→Hp→Option (V × Hp)} (hf:∀ (sh:Sh) (v:V) (x:Value) (d:V) (G:Gm) (H H':Hp),f sh v H = some (d,H')→Rel w0 G σ H D w→VR G σ v x→FinOut w0 w G σ H H' D (fun G' bs=>OwnR G' w w0.heap.size d x bs)) :
  ∀ {shs:List Sh} {l:List V} {vs:List Value} {ds:List V} {G:Gm} {H H':Hp},finL f shs l H = some (ds,H')→Rel w0 G σ H D w→VRL G σ l vs→FinOut w0 w G σ H H' D (fun G' bs=>OwnRL G' w w0.heap.size ds vs bs)
 | shs,[],_,ds,G,H,H',h,hrel,.nil=>by
  simp [finL] at h;obtain ⟨rfl,rfl⟩:=h
  exact ⟨fun _ h=>h,G,[],GExt.refl _,fun b i v e=>.inl e,hrel,(fun b hb=>by cases hb),(fun b hb=>by cases hb),List.nodup_nil,.nil⟩
 | shs,v::l,_,ds,G,H,H',h,hrel,.cons hv ht=>by
  simp only [finL,Option.bind_eq_some_iff,Option.map_eq_some_iff] at h
  obtain ⟨⟨d,H1⟩,h1,⟨ds',H2⟩,h2,e⟩:=h
  cases e
  obtain ⟨hs1,G1,b1,hG1,hn1,hr1,hl1,ha1,hd1,ho1⟩:=hf _ _ _ _ _ _ _ h1 hrel hv
  obtain ⟨hs2,G2,b2,hG2,hn2,hr2,hl2,ha2,hd2,ho2⟩:=finL_sound hf h2 hr1 (ht.mono hG1 (SExt.refl _))
  refine ⟨fun b hb=>hs1 b (hs2 b hb),G2,b1++b2,hG1.trans hG2,fun b i v e=>(hn2 b i v e).elim (fun e=>hn1 b i v e) (fun hl=>.inr (hs1 _ hl)),hr2,?_,?_,?_,.cons (ho1.mono hG2 ?_) ho2⟩
  ·intro b hb
   rcases List.mem_append.1 hb with hb | hb
   ·exact hl1 b hb
   ·exact hs1 b (hl2 b hb)
  ·intro b hb
   rcases List.mem_append.1 hb with hb | hb
   ·exact fun hl=>ha1 b hb (hs2 b hl)
   ·exact ha2 b hb
  ·rw [List.nodup_append]
   exact ⟨hd1,hd2,fun b hb c hc e=>ha1 b hb (e ▸ hl2 c hc)⟩
  ·intro b hb o v e
   rcases hn2 b o v e with e | hl
   ·exact e
   ·exact absurd hl (ha1 b hb)
theorem fin_sound:∀ (n:Nat) (sh:Sh) (v:V) (x:Value) (d:V) (G:Gm) (H H':Hp),fin n sh v H = some (d,H')→Rel w0 G σ H D w→VR G σ v x→FinOut w0 w G σ H H' D (fun G' bs=>OwnR G' w w0.heap.size d x bs)
 | 0,sh,v,x,d,G,H,H',h,hrel,hv=>(frz_sound 0 v x d G H H' h hrel hv).fin
 | n+1,sh,v,x,d,G,H,H',h,hrel,hv=>by
  simp only [fin] at h
  split at h
  ·cases h
   cases hv with
   | deep hd =>
    cases hd
    exact ⟨fun _ h=>h,G,[],GExt.refl _,fun b i v e=>.inl e,hrel,(fun b hb=>by cases hb),(fun b hb=>by cases hb),List.nodup_nil,.own0 _⟩
  ·rename_i sz o ver off len
   split at h
   ·rename_i ob ho
    split at h
    ·rename_i hc
     obtain ⟨c1,c2,c3,c4,c5,c6⟩:=hc
     subst c1;subst c2;subst c3
     simp only [Option.bind_eq_some_iff] at h
     obtain ⟨⟨ds,H1⟩,hm,h⟩:=h
     unfold finRef at h
     simp only at h
     split at h
     ·rename_i ob1 ho1
      split at h
      ·rename_i hf1
       cases h
       rcases hrel.obs _ _ ho with ⟨B,hB,hlo,hOb⟩ | ⟨hN,hcn,hnl,hfz⟩ | ⟨_,_,_,_,hOb⟩
       rotate_left 2
       ·exact absurd c6 hOb.sp
       ·cases hv with
        | deep h=>cases h
        | ref0 hs=>rw [hB] at hs;cases hs
        | ref hs hcc hNN =>
         rename_i cap B2
         rw [hB] at hs;cases hs
         obtain ⟨cur,tt,hb,hNs,hll,hcl⟩:=hOb.blk
         obtain ⟨vs,hvs,hones,hread⟩:=cells_list (f:=fun i=>cur[i]?) (l:=ob.cells.take (len * ob.sz)) (fun i u hu=>by
          rw [List.getElem?_take] at hu
          split at hu
          ·exact hcl _ _ hu
          ·cases hu)
         obtain ⟨hx1,G1,hG1,hn1,hr1,hd1⟩:=mapS_sound (frz_sound n) hm hrel hvs
         have hver:ob1.ver = ob.ver:=by
          obtain ⟨k,_,e⟩:=hx1.2 _ _ ho1
          rw [ho] at e;cases e;rfl
         have hB1:σ o ob1.ver = some (some B):=by rw [hver];exact hB
         refine ⟨fun b hl=>Lives.back (H:=H) (H':=H1) ?_ hx1,G1,[B.b],hG1,hn1,hr1.del o,?_,?_,by simp,?_⟩
         ·obtain ⟨o',ob',B',e,hs',hb'⟩:=hl
          unfold Hp.del at e
          split at e
          ·cases e
          ·exact ⟨o',ob',B',e,hs',hb'⟩
         ·intro b hb';simp at hb';subst hb';exact ⟨o,ob,B,ho,hB,rfl⟩
         ·intro b hb' hl
          simp at hb';subst hb'
          obtain ⟨o',ob',B',e,hs',hb'⟩:=hl
          unfold Hp.del at e
          split at e
          ·cases e
          ·rename_i hne
           exact hne (hr1.inj _ _ _ _ _ _ e ho1 hs' hB1 hb')
         ·have hds:=hd1.length
          have hvl:=hvs.length
          refine .own hlo hb (fun i v e=>?_) hcc (by rw [hNs,hOb.sz];omega) (by simp at hvl;omega) (fun i v hi=>?_)
          ·rcases hr1.obs _ _ ho1 with ⟨B',hB',_,hOb1⟩ | ⟨hN,_⟩ | ⟨_,_,_,_,hOb1⟩
           rotate_left 2
           ·obtain ⟨k,_,e⟩:=hx1.2 _ _ ho1
            rw [ho] at e;cases e;exact absurd c6 hOb1.sp
           ·rw [hB1] at hB';cases hB'
            have:=hOb1.gsep i v e
            omega
           ·rw [hB1] at hN;cases hN
          ·obtain ⟨y,hy,hr⟩:=hd1.get hi
           exact ⟨y,hread _ _ hy,hr,hones y (List.mem_of_getElem? hy)⟩
       ·cases hv with
        | deep h=>cases h
        | ref hs _ _=>rw [hN] at hs;cases hs
        | ref0 hs =>
         simp only [Nat.zero_mul,List.take_zero,mapS,Option.some.injEq,Prod.mk.injEq] at hm
         obtain ⟨rfl,rfl⟩:=hm
         refine ⟨fun b hl=>?_,G,[],GExt.refl _,fun b i v e=>.inl e,hrel.del o,(fun b hb=>by cases hb),(fun b hb=>by cases hb),List.nodup_nil,.own0 _⟩
         obtain ⟨o',ob',B',e,hs',hb'⟩:=hl
         unfold Hp.del at e
         split at e
         ·cases e
         ·exact ⟨o',ob',B',e,hs',hb'⟩
      ·cases h
     ·cases h
    ·exact (frz_sound (n+1) _ _ _ _ _ _ h hrel hv).fin
   ·cases h
  ·simp only [Option.map_eq_some_iff] at h
   obtain ⟨⟨l',H1⟩,h1,e⟩:=h
   cases e
   obtain ⟨vs,rfl,hl,hones⟩:=hv.agg_inv
   obtain ⟨hs1,G1,b1,hG1,hn1,hr1,hl1,ha1,hd1,ho1⟩:=finL_sound (fin_sound n) h1 hrel hl
   exact ⟨hs1,G1,b1,hG1,hn1,hr1,hl1,ha1,hd1,.agg ho1 hones⟩
  ·simp only [Option.map_eq_some_iff] at h
   obtain ⟨⟨l',H1⟩,h1,e⟩:=h
   cases e
   obtain ⟨vs,rfl,hl⟩:=hv.tup_inv
   obtain ⟨hs1,G1,b1,hG1,hn1,hr1,hl1,ha1,hd1,ho1⟩:=finL_sound (fin_sound n) h1 hrel hl
   exact ⟨hs1,G1,b1,hG1,hn1,hr1,hl1,ha1,hd1,.tup ho1⟩
  ·exact (frz_sound (n+1) _ _ _ _ _ _ h hrel hv).fin
end
end Go.Dp
