/- Cuts whose parameter tells of the next object's number, too. -/
import Derived.Test.YtlbjgnkjicifhaaGreatDpIt
namespace Go.Dp
open Go.RowKit
set_option linter.unusedVariables false
section
variable {P:Program} {Y:Ys} {K:Ex→St→Prop} {st:St} {fr:Env} {H:Hp} {nx:Nat}
theorem W.cutN {α:Type} {a b:C} (f:α→Env) (g:α→Hp) (Inv:α→Nat→Prop) (h2:∀ x n,Inv x n→wp P Y b K ⟨f x,g x,n⟩)
  (h1:∀ G:St→Prop,(∀ x n,Inv x n→G ⟨f x,g x,n⟩)→wp P Y a (kCut G K) st):wp P Y (.seq a b) K st:=by
 have:=h1 (wp P Y b K) h2
 rw [kCut_eq] at this
 exact this
theorem W.kcN {α:Type} {f:α→Env} {g:α→Hp} {Inv:α→Nat→Prop} {G:St→Prop} (hG:∀ x n,Inv x n→G ⟨f x,g x,n⟩) (x:α) (hx:Inv x nx) (hH:HS (g x) H)
  (hE:ES (f x) fr:=by repeat (first | exact ES.nil _ | (with_reducible exact ES.keep (ES.nil _)) | (with_reducible apply ES.keep) | (apply ES.skip;rfl))):kCut G K .nm ⟨fr,H,nx⟩ :=
 ⟨f x,g x,hE,hH,hG x nx hx⟩
end
end Go.Dp
