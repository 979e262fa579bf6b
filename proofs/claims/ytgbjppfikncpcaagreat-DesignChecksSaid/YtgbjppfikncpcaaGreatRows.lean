/-
  No cell of these rows narrows 'for every input' (looked for: loops, veiled, ifaces, maps, wideKeys, modest, calm, conditions, laid).
  DERIVED. THE GIVEN ROWS OF THIS SEAT. 3 by the template 'for every input the law returns true; each argument reads behind the call as it read before'; 0 by the template 'total and deterministic' (their statements: YtgbjppfikncpcaaGreatTotals.lean).
  GIVEN WITH THE SEED: the statements are not yours to turn. If you find one false, say at which input.
  Laid BY PROGRAM, IN A SANDBOX (cutbox-rows.mjs): the forced cells as the released guide's own fill.sh prints them over the translation 074b272681c86600… (all of the seat's roots in one cut). By AI agents, Wed Nov 11 2026. No macro, syntax, notation, axiom, sorry.
-/
import Derived.Test.YtgbjppfikncpcaaGreatChecked
import GoSem.Claim
import GoSem.ClaimJoined
import GoSem.ClaimMapViews
import Derived.JoinedTies
import Derived.KernelRfl
namespace Go.Proofs.YtgbjppfikncpcaaGreat
/- THE CELL 'sum', in the pinned program and in every row, IS THE sha256 OF THE DUMP (.gsa) THAT YtgbjppfikncpcaaGreatProg.lean LOADS. Nothing in Lean hashes anything: it is a label: what it is worth is what the hold of that sum in a sandbox is worth. -/
noncomputable def Tryz.pinned : Pinned := { name := "ytgbjppfikncpcaagreat", sum := "074b272681c86600a92121be6ce400b256a65bb9410e454aba6055cbcc43124c", checked := Tryz.checked }
namespace Rows
def none {H : Type} : Left H := { results := [], args := [] }

/-- 'dauberlaw06.DesignSymbols': WHATEVER THE INPUT: true; the input reads as it did. -/
def designSymbolsSpec : ChangeSpec := { name := "designSymbols", fn := fun _ => fun
  | [d1, d2, d3] => { results := [.lit (.bool true)], args := [d1, d2, d3] }
  | _ => none }
def designSymbolsRow : OpenClaim := { program := "ytgbjppfikncpcaagreat", sum := "074b272681c86600a92121be6ce400b256a65bb9410e454aba6055cbcc43124c", func := "dauber/dauberlaw06.DesignSymbols", spec := "designSymbols", inPlace := ["math/bits.Add64", "math/bits.Sub64"], unfollowed := true, recurses := true, named := ["math/bits.divideError", "math/bits.overflowError"], apart := false }
def DesignSymbolsSaid : Prop := designSymbolsRow.holds Tryz.pinned (OpenSpec.ofChange designSymbolsSpec)

/-- ITS FALSE NEIGHBOUR: 'it returns false'. Refute it at one input. -/
def designSymbolsWrong : ChangeSpec := { name := "designSymbols", fn := fun _ => fun
  | [d1, d2, d3] => { results := [.lit (.bool false)], args := [d1, d2, d3] }
  | _ => none }
def DesignSymbolsWrongFalsely : Prop := designSymbolsRow.holds Tryz.pinned (OpenSpec.ofChange designSymbolsWrong)

/-- 'dauberlaw06.DesignDiffers': WHATEVER THE INPUT: true; the input reads as it did. -/
def designDiffersSpec : ChangeSpec := { name := "designDiffers", fn := fun _ => fun
  | [d1, d2] => { results := [.lit (.bool true)], args := [d1, d2] }
  | _ => none }
def designDiffersRow : OpenClaim := { program := "ytgbjppfikncpcaagreat", sum := "074b272681c86600a92121be6ce400b256a65bb9410e454aba6055cbcc43124c", func := "dauber/dauberlaw06.DesignDiffers", spec := "designDiffers", inPlace := ["math/bits.Add64", "math/bits.Sub64"], unfollowed := true, recurses := true, named := ["math/bits.divideError", "math/bits.overflowError"], apart := false }
def DesignDiffersSaid : Prop := designDiffersRow.holds Tryz.pinned (OpenSpec.ofChange designDiffersSpec)

/-- ITS FALSE NEIGHBOUR: 'it returns false'. Refute it at one input. -/
def designDiffersWrong : ChangeSpec := { name := "designDiffers", fn := fun _ => fun
  | [d1, d2] => { results := [.lit (.bool false)], args := [d1, d2] }
  | _ => none }
def DesignDiffersWrongFalsely : Prop := designDiffersRow.holds Tryz.pinned (OpenSpec.ofChange designDiffersWrong)

/-- 'dauberlaw06.DesignChecks': WHATEVER THE INPUT: true; the input reads as it did. -/
def designChecksSpec : ChangeSpec := { name := "designChecks", fn := fun _ => fun
  | [d1, d2] => { results := [.lit (.bool true)], args := [d1, d2] }
  | _ => none }
def designChecksRow : OpenClaim := { program := "ytgbjppfikncpcaagreat", sum := "074b272681c86600a92121be6ce400b256a65bb9410e454aba6055cbcc43124c", func := "dauber/dauberlaw06.DesignChecks", spec := "designChecks", inPlace := ["math/bits.Add64", "math/bits.Sub64"], unfollowed := true, recurses := true, named := ["math/bits.divideError", "math/bits.overflowError"], apart := false }
def DesignChecksSaid : Prop := designChecksRow.holds Tryz.pinned (OpenSpec.ofChange designChecksSpec)

/-- ITS FALSE NEIGHBOUR: 'it returns false'. Refute it at one input. -/
def designChecksWrong : ChangeSpec := { name := "designChecks", fn := fun _ => fun
  | [d1, d2] => { results := [.lit (.bool false)], args := [d1, d2] }
  | _ => none }
def DesignChecksWrongFalsely : Prop := designChecksRow.holds Tryz.pinned (OpenSpec.ofChange designChecksWrong)

/- THE SECOND FORM. 'bulk': how many values and letters a reading holds, each counted each time it is reached (what is shared counts as often as it is met; a slice's spare places count too). A statement '..UptoSaid' is the law's where the arguments, and the package variables that the reading takes, are together of bulk at most 1048576: NARROWER than '..Said'. Prove '..Said' where nothing that the law and all that it calls make is longer than what came in: it says more and counts as full. Else prove '..UptoSaid'. A law counts once. -/
mutual
def uptoBulk {H : Type} : DataW H → Nat
  | .lit (.string bytes) => bytes.length + 1
  | .lit _ => 1
  | .nil => 1
  | .ptr d => uptoBulk d + 1
  | .slice elems spare => uptoBulkAll elems + uptoBulkAll spare + 1
  | .agg parts => uptoBulkAll parts + 1
  | .iface _ d => uptoBulk d + 1
  | .map entries => uptoBulkEntries entries + 1
  | .held _ => 1
def uptoBulkAll {H : Type} : List (DataW H) → Nat
  | [] => 0
  | d :: r => uptoBulk d + uptoBulkAll r
def uptoBulkEntries {H : Type} : List (Lit × DataW H) → Nat
  | [] => 0
  | x :: r => uptoBulkEntry x + uptoBulkEntries r
def uptoBulkEntry {H : Type} : Lit × DataW H → Nat
  | (.string bytes, d) => bytes.length + uptoBulk d + 1
  | (_, d) => uptoBulk d + 1
 end
def uptoSmall : (H : Type) → List (DataW H) → Bool := fun _ ds => decide (uptoBulkAll ds ≤ 1048576)
def OpenSpec.upto (s : _root_.Go.ChangeSpec) : _root_.Go.OpenSpec := { _root_.Go.OpenSpec.ofChange s with cond := some uptoSmall }

/-- 'dauberlaw06.DesignSymbols', WHERE WHAT IT READS IS OF BULK AT MOST 1048576: true; the input reads as it did. -/
def designSymbolsUptoRow : OpenClaim := { program := "ytgbjppfikncpcaagreat", sum := "074b272681c86600a92121be6ce400b256a65bb9410e454aba6055cbcc43124c", func := "dauber/dauberlaw06.DesignSymbols", spec := "designSymbols", inPlace := ["math/bits.Add64", "math/bits.Sub64"], unfollowed := true, recurses := true, named := ["math/bits.divideError", "math/bits.overflowError"], apart := false, narrowed := true }
def DesignSymbolsUptoSaid : Prop := designSymbolsUptoRow.holds Tryz.pinned (OpenSpec.upto designSymbolsSpec)

/-- 'dauberlaw06.DesignDiffers', WHERE WHAT IT READS IS OF BULK AT MOST 1048576: true; the input reads as it did. -/
def designDiffersUptoRow : OpenClaim := { program := "ytgbjppfikncpcaagreat", sum := "074b272681c86600a92121be6ce400b256a65bb9410e454aba6055cbcc43124c", func := "dauber/dauberlaw06.DesignDiffers", spec := "designDiffers", inPlace := ["math/bits.Add64", "math/bits.Sub64"], unfollowed := true, recurses := true, named := ["math/bits.divideError", "math/bits.overflowError"], apart := false, narrowed := true }
def DesignDiffersUptoSaid : Prop := designDiffersUptoRow.holds Tryz.pinned (OpenSpec.upto designDiffersSpec)

/-- 'dauberlaw06.DesignChecks', WHERE WHAT IT READS IS OF BULK AT MOST 1048576: true; the input reads as it did. -/
def designChecksUptoRow : OpenClaim := { program := "ytgbjppfikncpcaagreat", sum := "074b272681c86600a92121be6ce400b256a65bb9410e454aba6055cbcc43124c", func := "dauber/dauberlaw06.DesignChecks", spec := "designChecks", inPlace := ["math/bits.Add64", "math/bits.Sub64"], unfollowed := true, recurses := true, named := ["math/bits.divideError", "math/bits.overflowError"], apart := false, narrowed := true }
def DesignChecksUptoSaid : Prop := designChecksUptoRow.holds Tryz.pinned (OpenSpec.upto designChecksSpec)

end Rows
end Go.Proofs.YtgbjppfikncpcaaGreat
