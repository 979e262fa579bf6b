/- DesignChecks: the parameters, the dual and the complement of any blocks of points, or the errors. Said of every number of points and all blocks that the statement lets in, without further conditions. -/
import Derived.Test.YtgbjppfikncpcaaGreatRows
import Derived.Test.YtgbjppfikncpcaaGreatDsF4
import Derived.Test.YtgbjppfikncpcaaGreatDvL5
import Derived.WalkKit
import Derived.ProofKit
import Derived.OpenShut
namespace Go.Proofs.YtgbjppfikncpcaaGreat.designChecks
open Go.ChangeShapes Go.WideShapes Go.ChangeAt Go.RowKit
set_option linter.unusedVariables false
theorem own:ownKnob Tryz.prog.godebug = none:=by kernel_rfl
theorem laidB:laidOutB Tryz.prog = true:=by kernel_rfl
theorem rd3:Tryz.prog.readableRec 3 = true:=by kernel_rfl
theorem sz3:decide (3 < Tryz.prog.types.size) = true:=by kernel_rfl
theorem rd39:Tryz.prog.readableRec 39 = true:=by kernel_rfl
theorem sz39:decide (39 < Tryz.prog.types.size) = true:=by kernel_rfl
theorem rdb:∀ t∈[3,39],Tryz.prog.readableRec t = true∧t < Tryz.prog.types.size:=by
 intro t ht
 simp only [List.mem_cons,List.not_mem_nil,or_false] at ht
 rcases ht with rfl | rfl
 ·exact ⟨rd3,of_decide_eq_true sz3⟩
 ·exact ⟨rd39,of_decide_eq_true sz39⟩
theorem fits:Go.Dp.Ty.fitsAll Tryz.prog Go.Dp.tys5 [3,39] = true:=by kernel_rfl
set_option maxRecDepth 100000 in
theorem lifted (os:Os) (started:os.Started) (H:Type) (enc:TypeId × Value→H) :
  ReturnsInHanded {} Tryz.checked os 5 .any (Rows.designChecksSpec.pre6 enc Tryz.prog Tryz.f5 Rows.designChecksRow.domain false) (Rows.designChecksSpec.post enc Tryz.prog Tryz.f5 false true false false):=by
 refine returnsInHanded_of_change (C := Tryz.checked) own started (by kernel_rfl) Tryz.func5
  (ChangeSpec.witness6 (enc:=enc) (C:=Tryz.checked) false ⟨#[],#[.int .i64 0,.slice none 0 0],[]⟩ 8 (by kernel_rfl) (by kernel_rfl) (by kernel_rfl) (by kernel_rfl)) ?_
 intro W base args ds gs before hval0 hW hcnd _
 have hval:∀ (j:Nat) t v,Tryz.f5.params[j]? = some t→args[j]? = some v→Value.okWide Tryz.prog W .any base t v:=hval0
 have hW':=hW
 obtain ⟨p,q,hA0,hV,rfl,hfz,hnd⟩:=hW
 have hA:DataW.TrodAll enc Tryz.prog W 0 (fun _=>true) true Tryz.f5.params.toList args.toList ds p:=hA0
 rw [Tryz.params5] at hA hval
 obtain ⟨rfl,rfl⟩:=trodVars_none hV
 have hAk:=hA
 obtain ⟨v0,vs0,d0,ds0,p0,q0,hargs,rfl,rfl,h0,r0⟩:=trodAll_cons hA
 obtain ⟨v1,vs1,d1,ds1,p1,q1,rfl,rfl,rfl,h1,r1⟩:=trodAll_cons r0
 obtain ⟨rfl,rfl,rfl⟩:=trodAll_nil r1
 obtain rfl:args = #[v0,v1]:=by cases args;simp_all
 have hlt:=hW'.lt
 simp only [List.append_nil] at hW' hlt
 have hw:Calls Tryz.prog 5 #[v0,v1] W fun e w'=>e = .returned (.bool true)∧Below W.heap.size W w':=by
  simpa using Go.Dp.Ty.walk (w:=W) Go.Dp.law5 fits (fun j t v h1 h2=>hval j t v (by simpa using h1) (by simpa using h2)) hAk
 refine hw.mono fun e W' ⟨he,hb⟩=>?_
 subst he
 exact ⟨_,rfl,Go.Dp.post_of_below (pa:=_) (pv:=[]) hW' (fun _ _ _=>(trodAll_cons_mk (shut_bool Tryz.underlying4 _) trodAll_mk0))
  (fun sp hsp=>by rw [Tryz.params5];exact Go.Dp.trodAll_stays laidB hb _ _ _ _ rdb hAk (by simpa using hlt) (by simpa using hsp)) (fun _ _=>rfl) (by simp)
  hb (ok_one (by kernel_rfl) rfl (okWide_bool_mk Tryz.underlying4 _))⟩
theorem over:Rows.designChecksRow.holds Tryz.pinned (OpenSpec.ofChange Rows.designChecksSpec) :=
 OpenClaim.holds_of_wide 5 Tryz.f5 rfl rfl rfl rfl rfl rfl rfl ⟨rfl, rfl, rfl, rfl, rfl⟩ rfl rfl rfl rfl rfl (by kernel_rfl) Tryz.func5 (by kernel_rfl)
  (of_decide_eq_true (by kernel_rfl)) (by unfold Func.isWrapper;first | (rw [if_pos (by decide +kernel)];kernel_rfl) | (rw [if_neg (by decide +kernel)];exact ⟨rfl,rfl⟩))
  (fun os started H enc _=>lifted os started H enc)
theorem proved:Rows.DesignChecksSaid :=
 over
#print axioms proved
end Go.Proofs.YtgbjppfikncpcaaGreat.designChecks
