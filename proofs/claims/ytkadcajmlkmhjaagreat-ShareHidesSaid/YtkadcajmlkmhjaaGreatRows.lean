/-
  No cell of these rows narrows 'for every input' (looked for: loops, veiled, ifaces, maps, wideKeys, modest, calm, conditions, laid).
  DERIVED. THE GIVEN ROWS OF THIS SEAT. 6 by the template 'for every input the law returns true; each argument reads behind the call as it read before'; 0 by the template 'total and deterministic' (their statements: YtkadcajmlkmhjaaGreatTotals.lean).
  GIVEN WITH THE SEED: the statements are not yours to turn. If you find one false, say at which input.
  Laid BY PROGRAM, IN A SANDBOX (cutbox-rows.mjs): the forced cells as the released guide's own fill.sh prints them over the translation f27f6f80e20b9deb… (all of the seat's roots in one cut). By AI agents, Wed Nov 11 2026. No macro, syntax, notation, axiom, sorry.
-/
import Derived.Test.YtkadcajmlkmhjaaGreatChecked
import GoSem.Claim
import GoSem.ClaimJoined
import GoSem.ClaimMapViews
import Derived.JoinedTies
import Derived.KernelRfl
namespace Go.Proofs.YtkadcajmlkmhjaaGreat
/- THE CELL 'sum', in the pinned program and in every row, IS THE sha256 OF THE DUMP (.gsa) THAT YtkadcajmlkmhjaaGreatProg.lean LOADS. Nothing in Lean hashes anything: it is a label: what it is worth is what the hold of that sum in a sandbox is worth. -/
noncomputable def Tryz.pinned : Pinned := { name := "ytkadcajmlkmhjaagreat", sum := "f27f6f80e20b9deb693debbdab23a2f51d8ccd38c47df8570189371b5f6b72e4", checked := Tryz.checked }
namespace Rows
def none {H : Type} : Left H := { results := [], args := [] }

/-- 'daubertop.TopShares': WHATEVER THE INPUT: true; the input reads as it did. -/
def topSharesSpec : ChangeSpec := { name := "topShares", fn := fun _ => fun
  | [d1, d2, d3] => { results := [.lit (.bool true)], args := [d1, d2, d3] }
  | _ => none }
def topSharesRow : OpenClaim := { program := "ytkadcajmlkmhjaagreat", sum := "f27f6f80e20b9deb693debbdab23a2f51d8ccd38c47df8570189371b5f6b72e4", func := "dauber/daubertop.TopShares", spec := "topShares", unfollowed := true, recurses := true, apart := false }
def TopSharesSaid : Prop := topSharesRow.holds Tryz.pinned (OpenSpec.ofChange topSharesSpec)

/-- ITS FALSE NEIGHBOUR: 'it returns false'. Refute it at one input. -/
def topSharesWrong : ChangeSpec := { name := "topShares", fn := fun _ => fun
  | [d1, d2, d3] => { results := [.lit (.bool false)], args := [d1, d2, d3] }
  | _ => none }
def TopSharesWrongFalsely : Prop := topSharesRow.holds Tryz.pinned (OpenSpec.ofChange topSharesWrong)

/-- 'dauberlaw08.ShareHeals': WHATEVER THE INPUT: true; the input reads as it did. -/
def shareHealsSpec : ChangeSpec := { name := "shareHeals", fn := fun _ => fun
  | [d1, d2, d3] => { results := [.lit (.bool true)], args := [d1, d2, d3] }
  | _ => none }
def shareHealsRow : OpenClaim := { program := "ytkadcajmlkmhjaagreat", sum := "f27f6f80e20b9deb693debbdab23a2f51d8ccd38c47df8570189371b5f6b72e4", func := "dauber/dauberlaw08.ShareHeals", spec := "shareHeals", unfollowed := true, recurses := true, apart := false }
def ShareHealsSaid : Prop := shareHealsRow.holds Tryz.pinned (OpenSpec.ofChange shareHealsSpec)

/-- ITS FALSE NEIGHBOUR: 'it returns false'. Refute it at one input. -/
def shareHealsWrong : ChangeSpec := { name := "shareHeals", fn := fun _ => fun
  | [d1, d2, d3] => { results := [.lit (.bool false)], args := [d1, d2, d3] }
  | _ => none }
def ShareHealsWrongFalsely : Prop := shareHealsRow.holds Tryz.pinned (OpenSpec.ofChange shareHealsWrong)

/-- 'dauberlaw08.ShareHides': WHATEVER THE INPUT: true; the input reads as it did. -/
def shareHidesSpec : ChangeSpec := { name := "shareHides", fn := fun _ => fun
  | [d1, d2] => { results := [.lit (.bool true)], args := [d1, d2] }
  | _ => none }
def shareHidesRow : OpenClaim := { program := "ytkadcajmlkmhjaagreat", sum := "f27f6f80e20b9deb693debbdab23a2f51d8ccd38c47df8570189371b5f6b72e4", func := "dauber/dauberlaw08.ShareHides", spec := "shareHides", unfollowed := true, recurses := true, apart := false }
def ShareHidesSaid : Prop := shareHidesRow.holds Tryz.pinned (OpenSpec.ofChange shareHidesSpec)

/-- ITS FALSE NEIGHBOUR: 'it returns false'. Refute it at one input. -/
def shareHidesWrong : ChangeSpec := { name := "shareHides", fn := fun _ => fun
  | [d1, d2] => { results := [.lit (.bool false)], args := [d1, d2] }
  | _ => none }
def ShareHidesWrongFalsely : Prop := shareHidesRow.holds Tryz.pinned (OpenSpec.ofChange shareHidesWrong)

/-- 'dauberlaw08.ShareLiars': WHATEVER THE INPUT: true; the input reads as it did. -/
def shareLiarsSpec : ChangeSpec := { name := "shareLiars", fn := fun _ => fun
  | [d1, d2, d3] => { results := [.lit (.bool true)], args := [d1, d2, d3] }
  | _ => none }
def shareLiarsRow : OpenClaim := { program := "ytkadcajmlkmhjaagreat", sum := "f27f6f80e20b9deb693debbdab23a2f51d8ccd38c47df8570189371b5f6b72e4", func := "dauber/dauberlaw08.ShareLiars", spec := "shareLiars", unfollowed := true, recurses := true, apart := false }
def ShareLiarsSaid : Prop := shareLiarsRow.holds Tryz.pinned (OpenSpec.ofChange shareLiarsSpec)

/-- ITS FALSE NEIGHBOUR: 'it returns false'. Refute it at one input. -/
def shareLiarsWrong : ChangeSpec := { name := "shareLiars", fn := fun _ => fun
  | [d1, d2, d3] => { results := [.lit (.bool false)], args := [d1, d2, d3] }
  | _ => none }
def ShareLiarsWrongFalsely : Prop := shareLiarsRow.holds Tryz.pinned (OpenSpec.ofChange shareLiarsWrong)

/-- 'dauberlaw08.SharePowers': WHATEVER THE INPUT: true; the input reads as it did. -/
def sharePowersSpec : ChangeSpec := { name := "sharePowers", fn := fun _ => fun
  | [d1, d2, d3] => { results := [.lit (.bool true)], args := [d1, d2, d3] }
  | _ => none }
def sharePowersRow : OpenClaim := { program := "ytkadcajmlkmhjaagreat", sum := "f27f6f80e20b9deb693debbdab23a2f51d8ccd38c47df8570189371b5f6b72e4", func := "dauber/dauberlaw08.SharePowers", spec := "sharePowers", unfollowed := true, recurses := true, apart := false }
def SharePowersSaid : Prop := sharePowersRow.holds Tryz.pinned (OpenSpec.ofChange sharePowersSpec)

/-- ITS FALSE NEIGHBOUR: 'it returns false'. Refute it at one input. -/
def sharePowersWrong : ChangeSpec := { name := "sharePowers", fn := fun _ => fun
  | [d1, d2, d3] => { results := [.lit (.bool false)], args := [d1, d2, d3] }
  | _ => none }
def SharePowersWrongFalsely : Prop := sharePowersRow.holds Tryz.pinned (OpenSpec.ofChange sharePowersWrong)

/-- 'dauberlaw08.ShareRefreshes': WHATEVER THE INPUT: true; the input reads as it did. -/
def shareRefreshesSpec : ChangeSpec := { name := "shareRefreshes", fn := fun _ => fun
  | [d1, d2] => { results := [.lit (.bool true)], args := [d1, d2] }
  | _ => none }
def shareRefreshesRow : OpenClaim := { program := "ytkadcajmlkmhjaagreat", sum := "f27f6f80e20b9deb693debbdab23a2f51d8ccd38c47df8570189371b5f6b72e4", func := "dauber/dauberlaw08.ShareRefreshes", spec := "shareRefreshes", unfollowed := true, recurses := true, apart := false }
def ShareRefreshesSaid : Prop := shareRefreshesRow.holds Tryz.pinned (OpenSpec.ofChange shareRefreshesSpec)

/-- ITS FALSE NEIGHBOUR: 'it returns false'. Refute it at one input. -/
def shareRefreshesWrong : ChangeSpec := { name := "shareRefreshes", fn := fun _ => fun
  | [d1, d2] => { results := [.lit (.bool false)], args := [d1, d2] }
  | _ => none }
def ShareRefreshesWrongFalsely : Prop := shareRefreshesRow.holds Tryz.pinned (OpenSpec.ofChange shareRefreshesWrong)

/- THE SECOND FORM. 'bulk': how many values and letters a reading holds, each counted each time it is reached (what is shared counts as often as it is met; a slice's spare places count too). A statement '..UptoSaid' is the law's where the arguments, and the package variables that the reading takes, are together of bulk at most 1048576: NARROWER than '..Said'. Prove '..Said' where nothing that the law and all that it calls make is longer than what came in: it says more and counts as full. Else prove '..UptoSaid'. A law counts once. -/
mutual
def uptoBulk {H : Type} : DataW H → Nat
  | .lit (.string bytes) => bytes.length + 1
  | .lit _ => 1
  | .nil => 1
  | .ptr d => uptoBulk d + 1
  | .slice elems spare => uptoBulkAll elems + uptoBulkAll spare + 1
  | .agg parts => uptoBulkAll parts + 1
  | .iface _ d => uptoBulk d + 1
  | .map entries => uptoBulkEntries entries + 1
  | .held _ => 1
def uptoBulkAll {H : Type} : List (DataW H) → Nat
  | [] => 0
  | d :: r => uptoBulk d + uptoBulkAll r
def uptoBulkEntries {H : Type} : List (Lit × DataW H) → Nat
  | [] => 0
  | x :: r => uptoBulkEntry x + uptoBulkEntries r
def uptoBulkEntry {H : Type} : Lit × DataW H → Nat
  | (.string bytes, d) => bytes.length + uptoBulk d + 1
  | (_, d) => uptoBulk d + 1
 end
def uptoSmall : (H : Type) → List (DataW H) → Bool := fun _ ds => decide (uptoBulkAll ds ≤ 1048576)
def OpenSpec.upto (s : _root_.Go.ChangeSpec) : _root_.Go.OpenSpec := { _root_.Go.OpenSpec.ofChange s with cond := some uptoSmall }

/-- 'daubertop.TopShares', WHERE WHAT IT READS IS OF BULK AT MOST 1048576: true; the input reads as it did. -/
def topSharesUptoRow : OpenClaim := { program := "ytkadcajmlkmhjaagreat", sum := "f27f6f80e20b9deb693debbdab23a2f51d8ccd38c47df8570189371b5f6b72e4", func := "dauber/daubertop.TopShares", spec := "topShares", unfollowed := true, recurses := true, apart := false, narrowed := true }
def TopSharesUptoSaid : Prop := topSharesUptoRow.holds Tryz.pinned (OpenSpec.upto topSharesSpec)

/-- 'dauberlaw08.ShareHeals', WHERE WHAT IT READS IS OF BULK AT MOST 1048576: true; the input reads as it did. -/
def shareHealsUptoRow : OpenClaim := { program := "ytkadcajmlkmhjaagreat", sum := "f27f6f80e20b9deb693debbdab23a2f51d8ccd38c47df8570189371b5f6b72e4", func := "dauber/dauberlaw08.ShareHeals", spec := "shareHeals", unfollowed := true, recurses := true, apart := false, narrowed := true }
def ShareHealsUptoSaid : Prop := shareHealsUptoRow.holds Tryz.pinned (OpenSpec.upto shareHealsSpec)

/-- 'dauberlaw08.ShareHides', WHERE WHAT IT READS IS OF BULK AT MOST 1048576: true; the input reads as it did. -/
def shareHidesUptoRow : OpenClaim := { program := "ytkadcajmlkmhjaagreat", sum := "f27f6f80e20b9deb693debbdab23a2f51d8ccd38c47df8570189371b5f6b72e4", func := "dauber/dauberlaw08.ShareHides", spec := "shareHides", unfollowed := true, recurses := true, apart := false, narrowed := true }
def ShareHidesUptoSaid : Prop := shareHidesUptoRow.holds Tryz.pinned (OpenSpec.upto shareHidesSpec)

/-- 'dauberlaw08.ShareLiars', WHERE WHAT IT READS IS OF BULK AT MOST 1048576: true; the input reads as it did. -/
def shareLiarsUptoRow : OpenClaim := { program := "ytkadcajmlkmhjaagreat", sum := "f27f6f80e20b9deb693debbdab23a2f51d8ccd38c47df8570189371b5f6b72e4", func := "dauber/dauberlaw08.ShareLiars", spec := "shareLiars", unfollowed := true, recurses := true, apart := false, narrowed := true }
def ShareLiarsUptoSaid : Prop := shareLiarsUptoRow.holds Tryz.pinned (OpenSpec.upto shareLiarsSpec)

/-- 'dauberlaw08.SharePowers', WHERE WHAT IT READS IS OF BULK AT MOST 1048576: true; the input reads as it did. -/
def sharePowersUptoRow : OpenClaim := { program := "ytkadcajmlkmhjaagreat", sum := "f27f6f80e20b9deb693debbdab23a2f51d8ccd38c47df8570189371b5f6b72e4", func := "dauber/dauberlaw08.SharePowers", spec := "sharePowers", unfollowed := true, recurses := true, apart := false, narrowed := true }
def SharePowersUptoSaid : Prop := sharePowersUptoRow.holds Tryz.pinned (OpenSpec.upto sharePowersSpec)

/-- 'dauberlaw08.ShareRefreshes', WHERE WHAT IT READS IS OF BULK AT MOST 1048576: true; the input reads as it did. -/
def shareRefreshesUptoRow : OpenClaim := { program := "ytkadcajmlkmhjaagreat", sum := "f27f6f80e20b9deb693debbdab23a2f51d8ccd38c47df8570189371b5f6b72e4", func := "dauber/dauberlaw08.ShareRefreshes", spec := "shareRefreshes", unfollowed := true, recurses := true, apart := false, narrowed := true }
def ShareRefreshesUptoSaid : Prop := shareRefreshesUptoRow.holds Tryz.pinned (OpenSpec.upto shareRefreshesSpec)

end Rows
end Go.Proofs.YtkadcajmlkmhjaaGreat
