/-
  No cell of these rows narrows 'for every input' (looked for: loops, veiled, ifaces, maps, wideKeys, modest, calm, conditions, laid).
  DERIVED. THE GIVEN ROWS OF THIS SEAT. 6 by the template 'for every input the law returns true; each argument reads behind the call as it read before'; 0 by the template 'total and deterministic' (their statements: YtkadcajmlkmhjabGreatTotals.lean).
  GIVEN WITH THE SEED: the statements are not yours to turn. If you find one false, say at which input.
  Laid BY PROGRAM, IN A SANDBOX (cutbox-rows.mjs): the forced cells as the released guide's own fill.sh prints them over the translation 161ed5079e45a768… (all of the seat's roots in one cut). By AI agents, Wed Nov 11 2026. No macro, syntax, notation, axiom, sorry.
-/
import Derived.Test.YtkadcajmlkmhjabGreatChecked
import GoSem.Claim
import GoSem.ClaimJoined
import GoSem.ClaimMapViews
import Derived.JoinedTies
import Derived.KernelRfl
namespace Go.Proofs.YtkadcajmlkmhjabGreat
/- THE CELL 'sum', in the pinned program and in every row, IS THE sha256 OF THE DUMP (.gsa) THAT YtkadcajmlkmhjabGreatProg.lean LOADS. Nothing in Lean hashes anything: it is a label: what it is worth is what the hold of that sum in a sandbox is worth. -/
noncomputable def Tryz.pinned : Pinned := { name := "ytkadcajmlkmhjabgreat", sum := "161ed5079e45a768df02a114f5d32257617bdfcb7f2be0c91118c9476817d539", checked := Tryz.checked }
namespace Rows
def none {H : Type} : Left H := { results := [], args := [] }

/-- 'dauberlaw08.ShareRecovers': WHATEVER THE INPUT: true; the input reads as it did. -/
def shareRecoversSpec : ChangeSpec := { name := "shareRecovers", fn := fun _ => fun
  | [d1, d2, d3] => { results := [.lit (.bool true)], args := [d1, d2, d3] }
  | _ => none }
def shareRecoversRow : OpenClaim := { program := "ytkadcajmlkmhjabgreat", sum := "161ed5079e45a768df02a114f5d32257617bdfcb7f2be0c91118c9476817d539", func := "dauber/dauberlaw08.ShareRecovers", spec := "shareRecovers", unfollowed := true, recurses := true, apart := false }
def ShareRecoversSaid : Prop := shareRecoversRow.holds Tryz.pinned (OpenSpec.ofChange shareRecoversSpec)

/-- ITS FALSE NEIGHBOUR: 'it returns false'. Refute it at one input. -/
def shareRecoversWrong : ChangeSpec := { name := "shareRecovers", fn := fun _ => fun
  | [d1, d2, d3] => { results := [.lit (.bool false)], args := [d1, d2, d3] }
  | _ => none }
def ShareRecoversWrongFalsely : Prop := shareRecoversRow.holds Tryz.pinned (OpenSpec.ofChange shareRecoversWrong)

/-- 'dauberlaw08.ShareDeals': WHATEVER THE INPUT: true; the input reads as it did. -/
def shareDealsSpec : ChangeSpec := { name := "shareDeals", fn := fun _ => fun
  | [d1, d2, d3] => { results := [.lit (.bool true)], args := [d1, d2, d3] }
  | _ => none }
def shareDealsRow : OpenClaim := { program := "ytkadcajmlkmhjabgreat", sum := "161ed5079e45a768df02a114f5d32257617bdfcb7f2be0c91118c9476817d539", func := "dauber/dauberlaw08.ShareDeals", spec := "shareDeals", unfollowed := true, recurses := true, apart := false }
def ShareDealsSaid : Prop := shareDealsRow.holds Tryz.pinned (OpenSpec.ofChange shareDealsSpec)

/-- ITS FALSE NEIGHBOUR: 'it returns false'. Refute it at one input. -/
def shareDealsWrong : ChangeSpec := { name := "shareDeals", fn := fun _ => fun
  | [d1, d2, d3] => { results := [.lit (.bool false)], args := [d1, d2, d3] }
  | _ => none }
def ShareDealsWrongFalsely : Prop := shareDealsRow.holds Tryz.pinned (OpenSpec.ofChange shareDealsWrong)

/-- 'dauberlaw08.ShareSecret': WHATEVER THE INPUT: true; the input reads as it did. -/
def shareSecretSpec : ChangeSpec := { name := "shareSecret", fn := fun _ => fun
  | [d1, d2, d3] => { results := [.lit (.bool true)], args := [d1, d2, d3] }
  | _ => none }
def shareSecretRow : OpenClaim := { program := "ytkadcajmlkmhjabgreat", sum := "161ed5079e45a768df02a114f5d32257617bdfcb7f2be0c91118c9476817d539", func := "dauber/dauberlaw08.ShareSecret", spec := "shareSecret", unfollowed := true, recurses := true, apart := false }
def ShareSecretSaid : Prop := shareSecretRow.holds Tryz.pinned (OpenSpec.ofChange shareSecretSpec)

/-- ITS FALSE NEIGHBOUR: 'it returns false'. Refute it at one input. -/
def shareSecretWrong : ChangeSpec := { name := "shareSecret", fn := fun _ => fun
  | [d1, d2, d3] => { results := [.lit (.bool false)], args := [d1, d2, d3] }
  | _ => none }
def ShareSecretWrongFalsely : Prop := shareSecretRow.holds Tryz.pinned (OpenSpec.ofChange shareSecretWrong)

/-- 'dauberlaw08.ShareProves': WHATEVER THE INPUT: true; the input reads as it did. -/
def shareProvesSpec : ChangeSpec := { name := "shareProves", fn := fun _ => fun
  | [d1, d2, d3] => { results := [.lit (.bool true)], args := [d1, d2, d3] }
  | _ => none }
def shareProvesRow : OpenClaim := { program := "ytkadcajmlkmhjabgreat", sum := "161ed5079e45a768df02a114f5d32257617bdfcb7f2be0c91118c9476817d539", func := "dauber/dauberlaw08.ShareProves", spec := "shareProves", unfollowed := true, recurses := true, apart := false }
def ShareProvesSaid : Prop := shareProvesRow.holds Tryz.pinned (OpenSpec.ofChange shareProvesSpec)

/-- ITS FALSE NEIGHBOUR: 'it returns false'. Refute it at one input. -/
def shareProvesWrong : ChangeSpec := { name := "shareProves", fn := fun _ => fun
  | [d1, d2, d3] => { results := [.lit (.bool false)], args := [d1, d2, d3] }
  | _ => none }
def ShareProvesWrongFalsely : Prop := shareProvesRow.holds Tryz.pinned (OpenSpec.ofChange shareProvesWrong)

/-- 'dauberlaw08.ShareKnows': WHATEVER THE INPUT: true; the input reads as it did. -/
def shareKnowsSpec : ChangeSpec := { name := "shareKnows", fn := fun _ => fun
  | [d1, d2] => { results := [.lit (.bool true)], args := [d1, d2] }
  | _ => none }
def shareKnowsRow : OpenClaim := { program := "ytkadcajmlkmhjabgreat", sum := "161ed5079e45a768df02a114f5d32257617bdfcb7f2be0c91118c9476817d539", func := "dauber/dauberlaw08.ShareKnows", spec := "shareKnows", unfollowed := true, recurses := true, apart := false }
def ShareKnowsSaid : Prop := shareKnowsRow.holds Tryz.pinned (OpenSpec.ofChange shareKnowsSpec)

/-- ITS FALSE NEIGHBOUR: 'it returns false'. Refute it at one input. -/
def shareKnowsWrong : ChangeSpec := { name := "shareKnows", fn := fun _ => fun
  | [d1, d2] => { results := [.lit (.bool false)], args := [d1, d2] }
  | _ => none }
def ShareKnowsWrongFalsely : Prop := shareKnowsRow.holds Tryz.pinned (OpenSpec.ofChange shareKnowsWrong)

/-- 'dauberlaw08.ShareGroups': WHATEVER THE INPUT: true; the input reads as it did. -/
def shareGroupsSpec : ChangeSpec := { name := "shareGroups", fn := fun _ => fun
  | [d1, d2] => { results := [.lit (.bool true)], args := [d1, d2] }
  | _ => none }
def shareGroupsRow : OpenClaim := { program := "ytkadcajmlkmhjabgreat", sum := "161ed5079e45a768df02a114f5d32257617bdfcb7f2be0c91118c9476817d539", func := "dauber/dauberlaw08.ShareGroups", spec := "shareGroups", unfollowed := true, recurses := true, apart := false }
def ShareGroupsSaid : Prop := shareGroupsRow.holds Tryz.pinned (OpenSpec.ofChange shareGroupsSpec)

/-- ITS FALSE NEIGHBOUR: 'it returns false'. Refute it at one input. -/
def shareGroupsWrong : ChangeSpec := { name := "shareGroups", fn := fun _ => fun
  | [d1, d2] => { results := [.lit (.bool false)], args := [d1, d2] }
  | _ => none }
def ShareGroupsWrongFalsely : Prop := shareGroupsRow.holds Tryz.pinned (OpenSpec.ofChange shareGroupsWrong)

/- THE SECOND FORM. 'bulk': how many values and letters a reading holds, each counted each time it is reached (what is shared counts as often as it is met; a slice's spare places count too). A statement '..UptoSaid' is the law's where the arguments, and the package variables that the reading takes, are together of bulk at most 1048576: NARROWER than '..Said'. Prove '..Said' where nothing that the law and all that it calls make is longer than what came in: it says more and counts as full. Else prove '..UptoSaid'. A law counts once. -/
mutual
def uptoBulk {H : Type} : DataW H → Nat
  | .lit (.string bytes) => bytes.length + 1
  | .lit _ => 1
  | .nil => 1
  | .ptr d => uptoBulk d + 1
  | .slice elems spare => uptoBulkAll elems + uptoBulkAll spare + 1
  | .agg parts => uptoBulkAll parts + 1
  | .iface _ d => uptoBulk d + 1
  | .map entries => uptoBulkEntries entries + 1
  | .held _ => 1
def uptoBulkAll {H : Type} : List (DataW H) → Nat
  | [] => 0
  | d :: r => uptoBulk d + uptoBulkAll r
def uptoBulkEntries {H : Type} : List (Lit × DataW H) → Nat
  | [] => 0
  | x :: r => uptoBulkEntry x + uptoBulkEntries r
def uptoBulkEntry {H : Type} : Lit × DataW H → Nat
  | (.string bytes, d) => bytes.length + uptoBulk d + 1
  | (_, d) => uptoBulk d + 1
 end
def uptoSmall : (H : Type) → List (DataW H) → Bool := fun _ ds => decide (uptoBulkAll ds ≤ 1048576)
def OpenSpec.upto (s : _root_.Go.ChangeSpec) : _root_.Go.OpenSpec := { _root_.Go.OpenSpec.ofChange s with cond := some uptoSmall }

/-- 'dauberlaw08.ShareRecovers', WHERE WHAT IT READS IS OF BULK AT MOST 1048576: true; the input reads as it did. -/
def shareRecoversUptoRow : OpenClaim := { program := "ytkadcajmlkmhjabgreat", sum := "161ed5079e45a768df02a114f5d32257617bdfcb7f2be0c91118c9476817d539", func := "dauber/dauberlaw08.ShareRecovers", spec := "shareRecovers", unfollowed := true, recurses := true, apart := false, narrowed := true }
def ShareRecoversUptoSaid : Prop := shareRecoversUptoRow.holds Tryz.pinned (OpenSpec.upto shareRecoversSpec)

/-- 'dauberlaw08.ShareDeals', WHERE WHAT IT READS IS OF BULK AT MOST 1048576: true; the input reads as it did. -/
def shareDealsUptoRow : OpenClaim := { program := "ytkadcajmlkmhjabgreat", sum := "161ed5079e45a768df02a114f5d32257617bdfcb7f2be0c91118c9476817d539", func := "dauber/dauberlaw08.ShareDeals", spec := "shareDeals", unfollowed := true, recurses := true, apart := false, narrowed := true }
def ShareDealsUptoSaid : Prop := shareDealsUptoRow.holds Tryz.pinned (OpenSpec.upto shareDealsSpec)

/-- 'dauberlaw08.ShareSecret', WHERE WHAT IT READS IS OF BULK AT MOST 1048576: true; the input reads as it did. -/
def shareSecretUptoRow : OpenClaim := { program := "ytkadcajmlkmhjabgreat", sum := "161ed5079e45a768df02a114f5d32257617bdfcb7f2be0c91118c9476817d539", func := "dauber/dauberlaw08.ShareSecret", spec := "shareSecret", unfollowed := true, recurses := true, apart := false, narrowed := true }
def ShareSecretUptoSaid : Prop := shareSecretUptoRow.holds Tryz.pinned (OpenSpec.upto shareSecretSpec)

/-- 'dauberlaw08.ShareProves', WHERE WHAT IT READS IS OF BULK AT MOST 1048576: true; the input reads as it did. -/
def shareProvesUptoRow : OpenClaim := { program := "ytkadcajmlkmhjabgreat", sum := "161ed5079e45a768df02a114f5d32257617bdfcb7f2be0c91118c9476817d539", func := "dauber/dauberlaw08.ShareProves", spec := "shareProves", unfollowed := true, recurses := true, apart := false, narrowed := true }
def ShareProvesUptoSaid : Prop := shareProvesUptoRow.holds Tryz.pinned (OpenSpec.upto shareProvesSpec)

/-- 'dauberlaw08.ShareKnows', WHERE WHAT IT READS IS OF BULK AT MOST 1048576: true; the input reads as it did. -/
def shareKnowsUptoRow : OpenClaim := { program := "ytkadcajmlkmhjabgreat", sum := "161ed5079e45a768df02a114f5d32257617bdfcb7f2be0c91118c9476817d539", func := "dauber/dauberlaw08.ShareKnows", spec := "shareKnows", unfollowed := true, recurses := true, apart := false, narrowed := true }
def ShareKnowsUptoSaid : Prop := shareKnowsUptoRow.holds Tryz.pinned (OpenSpec.upto shareKnowsSpec)

/-- 'dauberlaw08.ShareGroups', WHERE WHAT IT READS IS OF BULK AT MOST 1048576: true; the input reads as it did. -/
def shareGroupsUptoRow : OpenClaim := { program := "ytkadcajmlkmhjabgreat", sum := "161ed5079e45a768df02a114f5d32257617bdfcb7f2be0c91118c9476817d539", func := "dauber/dauberlaw08.ShareGroups", spec := "shareGroups", unfollowed := true, recurses := true, apart := false, narrowed := true }
def ShareGroupsUptoSaid : Prop := shareGroupsUptoRow.holds Tryz.pinned (OpenSpec.upto shareGroupsSpec)

end Rows
end Go.Proofs.YtkadcajmlkmhjabGreat
