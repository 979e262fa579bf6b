/-
  No cell of these rows narrows 'for every input' (looked for: loops, veiled, ifaces, maps, wideKeys, modest, calm, conditions, laid).
  DERIVED. THE GIVEN ROWS OF THIS SEAT. 9 by the template 'for every input the law returns true; each argument reads behind the call as it read before'; 0 by the template 'total and deterministic' (their statements: YtlbjgnkjicifhaaGreatTotals.lean).
  GIVEN WITH THE SEED: the statements are not yours to turn. If you find one false, say at which input.
  Laid BY PROGRAM, IN A SANDBOX (cutbox-rows.mjs): the forced cells as the released guide's own fill.sh prints them over the translation afa7db067a94ac54… (all of the seat's roots in one cut). By AI agents, Wed Nov 11 2026. No macro, syntax, notation, axiom, sorry.
-/
import Derived.Test.YtlbjgnkjicifhaaGreatChecked
import GoSem.Claim
import GoSem.ClaimJoined
import GoSem.ClaimMapViews
import Derived.JoinedTies
import Derived.KernelRfl
namespace Go.Proofs.YtlbjgnkjicifhaaGreat
/- THE CELL 'sum', in the pinned program and in every row, IS THE sha256 OF THE DUMP (.gsa) THAT YtlbjgnkjicifhaaGreatProg.lean LOADS. Nothing in Lean hashes anything: it is a label: what it is worth is what the hold of that sum in a sandbox is worth. -/
noncomputable def Tryz.pinned : Pinned := { name := "ytlbjgnkjicifhaagreat", sum := "afa7db067a94ac54ce854e989e74a74dd56bd6ce5e53de602466ff255493e72b", checked := Tryz.checked }
namespace Rows
def none {H : Type} : Left H := { results := [], args := [] }

/-- 'dauberlaw09.DrawRuns': WHATEVER THE INPUT: true; the input reads as it did. -/
def drawRunsSpec : ChangeSpec := { name := "drawRuns", fn := fun _ => fun
  | [d1, d2, d3] => { results := [.lit (.bool true)], args := [d1, d2, d3] }
  | _ => none }
def drawRunsRow : OpenClaim := { program := "ytlbjgnkjicifhaagreat", sum := "afa7db067a94ac54ce854e989e74a74dd56bd6ce5e53de602466ff255493e72b", func := "dauber/dauberlaw09.DrawRuns", spec := "drawRuns", unfollowed := true, recurses := true, apart := false }
def DrawRunsSaid : Prop := drawRunsRow.holds Tryz.pinned (OpenSpec.ofChange drawRunsSpec)

/-- ITS FALSE NEIGHBOUR: 'it returns false'. Refute it at one input. -/
def drawRunsWrong : ChangeSpec := { name := "drawRuns", fn := fun _ => fun
  | [d1, d2, d3] => { results := [.lit (.bool false)], args := [d1, d2, d3] }
  | _ => none }
def DrawRunsWrongFalsely : Prop := drawRunsRow.holds Tryz.pinned (OpenSpec.ofChange drawRunsWrong)

/-- 'dauberlaw09.DrawBinds': WHATEVER THE INPUT: true; the input reads as it did. -/
def drawBindsSpec : ChangeSpec := { name := "drawBinds", fn := fun _ => fun
  | [d1, d2, d3] => { results := [.lit (.bool true)], args := [d1, d2, d3] }
  | _ => none }
def drawBindsRow : OpenClaim := { program := "ytlbjgnkjicifhaagreat", sum := "afa7db067a94ac54ce854e989e74a74dd56bd6ce5e53de602466ff255493e72b", func := "dauber/dauberlaw09.DrawBinds", spec := "drawBinds", unfollowed := true, recurses := true, apart := false }
def DrawBindsSaid : Prop := drawBindsRow.holds Tryz.pinned (OpenSpec.ofChange drawBindsSpec)

/-- ITS FALSE NEIGHBOUR: 'it returns false'. Refute it at one input. -/
def drawBindsWrong : ChangeSpec := { name := "drawBinds", fn := fun _ => fun
  | [d1, d2, d3] => { results := [.lit (.bool false)], args := [d1, d2, d3] }
  | _ => none }
def DrawBindsWrongFalsely : Prop := drawBindsRow.holds Tryz.pinned (OpenSpec.ofChange drawBindsWrong)

/-- 'dauberlaw09.DrawFair': WHATEVER THE INPUT: true; the input reads as it did. -/
def drawFairSpec : ChangeSpec := { name := "drawFair", fn := fun _ => fun
  | [d1, d2, d3] => { results := [.lit (.bool true)], args := [d1, d2, d3] }
  | _ => none }
def drawFairRow : OpenClaim := { program := "ytlbjgnkjicifhaagreat", sum := "afa7db067a94ac54ce854e989e74a74dd56bd6ce5e53de602466ff255493e72b", func := "dauber/dauberlaw09.DrawFair", spec := "drawFair", unfollowed := true, recurses := true, apart := false }
def DrawFairSaid : Prop := drawFairRow.holds Tryz.pinned (OpenSpec.ofChange drawFairSpec)

/-- ITS FALSE NEIGHBOUR: 'it returns false'. Refute it at one input. -/
def drawFairWrong : ChangeSpec := { name := "drawFair", fn := fun _ => fun
  | [d1, d2, d3] => { results := [.lit (.bool false)], args := [d1, d2, d3] }
  | _ => none }
def DrawFairWrongFalsely : Prop := drawFairRow.holds Tryz.pinned (OpenSpec.ofChange drawFairWrong)

/-- 'dauberlaw09.DrawPosts': WHATEVER THE INPUT: true; the input reads as it did. -/
def drawPostsSpec : ChangeSpec := { name := "drawPosts", fn := fun _ => fun
  | [d1, d2, d3] => { results := [.lit (.bool true)], args := [d1, d2, d3] }
  | _ => none }
def drawPostsRow : OpenClaim := { program := "ytlbjgnkjicifhaagreat", sum := "afa7db067a94ac54ce854e989e74a74dd56bd6ce5e53de602466ff255493e72b", func := "dauber/dauberlaw09.DrawPosts", spec := "drawPosts", unfollowed := true, recurses := true, apart := false }
def DrawPostsSaid : Prop := drawPostsRow.holds Tryz.pinned (OpenSpec.ofChange drawPostsSpec)

/-- ITS FALSE NEIGHBOUR: 'it returns false'. Refute it at one input. -/
def drawPostsWrong : ChangeSpec := { name := "drawPosts", fn := fun _ => fun
  | [d1, d2, d3] => { results := [.lit (.bool false)], args := [d1, d2, d3] }
  | _ => none }
def DrawPostsWrongFalsely : Prop := drawPostsRow.holds Tryz.pinned (OpenSpec.ofChange drawPostsWrong)

/-- 'dauberlaw09.DrawEnds': WHATEVER THE INPUT: true; the input reads as it did. -/
def drawEndsSpec : ChangeSpec := { name := "drawEnds", fn := fun _ => fun
  | [d1, d2, d3] => { results := [.lit (.bool true)], args := [d1, d2, d3] }
  | _ => none }
def drawEndsRow : OpenClaim := { program := "ytlbjgnkjicifhaagreat", sum := "afa7db067a94ac54ce854e989e74a74dd56bd6ce5e53de602466ff255493e72b", func := "dauber/dauberlaw09.DrawEnds", spec := "drawEnds", unfollowed := true, recurses := true, apart := false }
def DrawEndsSaid : Prop := drawEndsRow.holds Tryz.pinned (OpenSpec.ofChange drawEndsSpec)

/-- ITS FALSE NEIGHBOUR: 'it returns false'. Refute it at one input. -/
def drawEndsWrong : ChangeSpec := { name := "drawEnds", fn := fun _ => fun
  | [d1, d2, d3] => { results := [.lit (.bool false)], args := [d1, d2, d3] }
  | _ => none }
def DrawEndsWrongFalsely : Prop := drawEndsRow.holds Tryz.pinned (OpenSpec.ofChange drawEndsWrong)

/-- 'dauberlaw09.DrawBoards': WHATEVER THE INPUT: true; the input reads as it did. -/
def drawBoardsSpec : ChangeSpec := { name := "drawBoards", fn := fun _ => fun
  | [d1, d2] => { results := [.lit (.bool true)], args := [d1, d2] }
  | _ => none }
def drawBoardsRow : OpenClaim := { program := "ytlbjgnkjicifhaagreat", sum := "afa7db067a94ac54ce854e989e74a74dd56bd6ce5e53de602466ff255493e72b", func := "dauber/dauberlaw09.DrawBoards", spec := "drawBoards", unfollowed := true, recurses := true, apart := false }
def DrawBoardsSaid : Prop := drawBoardsRow.holds Tryz.pinned (OpenSpec.ofChange drawBoardsSpec)

/-- ITS FALSE NEIGHBOUR: 'it returns false'. Refute it at one input. -/
def drawBoardsWrong : ChangeSpec := { name := "drawBoards", fn := fun _ => fun
  | [d1, d2] => { results := [.lit (.bool false)], args := [d1, d2] }
  | _ => none }
def DrawBoardsWrongFalsely : Prop := drawBoardsRow.holds Tryz.pinned (OpenSpec.ofChange drawBoardsWrong)

/-- 'dauberlaw09.DrawMixed': WHATEVER THE INPUT: true; the input reads as it did. -/
def drawMixedSpec : ChangeSpec := { name := "drawMixed", fn := fun _ => fun
  | [d1, d2, d3] => { results := [.lit (.bool true)], args := [d1, d2, d3] }
  | _ => none }
def drawMixedRow : OpenClaim := { program := "ytlbjgnkjicifhaagreat", sum := "afa7db067a94ac54ce854e989e74a74dd56bd6ce5e53de602466ff255493e72b", func := "dauber/dauberlaw09.DrawMixed", spec := "drawMixed", unfollowed := true, recurses := true, apart := false }
def DrawMixedSaid : Prop := drawMixedRow.holds Tryz.pinned (OpenSpec.ofChange drawMixedSpec)

/-- ITS FALSE NEIGHBOUR: 'it returns false'. Refute it at one input. -/
def drawMixedWrong : ChangeSpec := { name := "drawMixed", fn := fun _ => fun
  | [d1, d2, d3] => { results := [.lit (.bool false)], args := [d1, d2, d3] }
  | _ => none }
def DrawMixedWrongFalsely : Prop := drawMixedRow.holds Tryz.pinned (OpenSpec.ofChange drawMixedWrong)

/-- 'dauberlaw09.DrawChecks': WHATEVER THE INPUT: true; the input reads as it did. -/
def drawChecksSpec : ChangeSpec := { name := "drawChecks", fn := fun _ => fun
  | [d1, d2] => { results := [.lit (.bool true)], args := [d1, d2] }
  | _ => none }
def drawChecksRow : OpenClaim := { program := "ytlbjgnkjicifhaagreat", sum := "afa7db067a94ac54ce854e989e74a74dd56bd6ce5e53de602466ff255493e72b", func := "dauber/dauberlaw09.DrawChecks", spec := "drawChecks", unfollowed := true, recurses := true, apart := false }
def DrawChecksSaid : Prop := drawChecksRow.holds Tryz.pinned (OpenSpec.ofChange drawChecksSpec)

/-- ITS FALSE NEIGHBOUR: 'it returns false'. Refute it at one input. -/
def drawChecksWrong : ChangeSpec := { name := "drawChecks", fn := fun _ => fun
  | [d1, d2] => { results := [.lit (.bool false)], args := [d1, d2] }
  | _ => none }
def DrawChecksWrongFalsely : Prop := drawChecksRow.holds Tryz.pinned (OpenSpec.ofChange drawChecksWrong)

/-- 'dauberlaw08.ShareRecovers': WHATEVER THE INPUT: true; the input reads as it did. -/
def shareRecoversSpec : ChangeSpec := { name := "shareRecovers", fn := fun _ => fun
  | [d1, d2, d3] => { results := [.lit (.bool true)], args := [d1, d2, d3] }
  | _ => none }
def shareRecoversRow : OpenClaim := { program := "ytlbjgnkjicifhaagreat", sum := "afa7db067a94ac54ce854e989e74a74dd56bd6ce5e53de602466ff255493e72b", func := "dauber/dauberlaw08.ShareRecovers", spec := "shareRecovers", unfollowed := true, recurses := true, apart := false }
def ShareRecoversSaid : Prop := shareRecoversRow.holds Tryz.pinned (OpenSpec.ofChange shareRecoversSpec)

/-- ITS FALSE NEIGHBOUR: 'it returns false'. Refute it at one input. -/
def shareRecoversWrong : ChangeSpec := { name := "shareRecovers", fn := fun _ => fun
  | [d1, d2, d3] => { results := [.lit (.bool false)], args := [d1, d2, d3] }
  | _ => none }
def ShareRecoversWrongFalsely : Prop := shareRecoversRow.holds Tryz.pinned (OpenSpec.ofChange shareRecoversWrong)

/- THE SECOND FORM. 'bulk': how many values and letters a reading holds, each counted each time it is reached (what is shared counts as often as it is met; a slice's spare places count too). A statement '..UptoSaid' is the law's where the arguments, and the package variables that the reading takes, are together of bulk at most 1048576: NARROWER than '..Said'. Prove '..Said' where nothing that the law and all that it calls make is longer than what came in: it says more and counts as full. Else prove '..UptoSaid'. A law counts once. -/
mutual
def uptoBulk {H : Type} : DataW H → Nat
  | .lit (.string bytes) => bytes.length + 1
  | .lit _ => 1
  | .nil => 1
  | .ptr d => uptoBulk d + 1
  | .slice elems spare => uptoBulkAll elems + uptoBulkAll spare + 1
  | .agg parts => uptoBulkAll parts + 1
  | .iface _ d => uptoBulk d + 1
  | .map entries => uptoBulkEntries entries + 1
  | .held _ => 1
def uptoBulkAll {H : Type} : List (DataW H) → Nat
  | [] => 0
  | d :: r => uptoBulk d + uptoBulkAll r
def uptoBulkEntries {H : Type} : List (Lit × DataW H) → Nat
  | [] => 0
  | x :: r => uptoBulkEntry x + uptoBulkEntries r
def uptoBulkEntry {H : Type} : Lit × DataW H → Nat
  | (.string bytes, d) => bytes.length + uptoBulk d + 1
  | (_, d) => uptoBulk d + 1
 end
def uptoSmall : (H : Type) → List (DataW H) → Bool := fun _ ds => decide (uptoBulkAll ds ≤ 1048576)
def OpenSpec.upto (s : _root_.Go.ChangeSpec) : _root_.Go.OpenSpec := { _root_.Go.OpenSpec.ofChange s with cond := some uptoSmall }

/-- 'dauberlaw09.DrawRuns', WHERE WHAT IT READS IS OF BULK AT MOST 1048576: true; the input reads as it did. -/
def drawRunsUptoRow : OpenClaim := { program := "ytlbjgnkjicifhaagreat", sum := "afa7db067a94ac54ce854e989e74a74dd56bd6ce5e53de602466ff255493e72b", func := "dauber/dauberlaw09.DrawRuns", spec := "drawRuns", unfollowed := true, recurses := true, apart := false, narrowed := true }
def DrawRunsUptoSaid : Prop := drawRunsUptoRow.holds Tryz.pinned (OpenSpec.upto drawRunsSpec)

/-- 'dauberlaw09.DrawBinds', WHERE WHAT IT READS IS OF BULK AT MOST 1048576: true; the input reads as it did. -/
def drawBindsUptoRow : OpenClaim := { program := "ytlbjgnkjicifhaagreat", sum := "afa7db067a94ac54ce854e989e74a74dd56bd6ce5e53de602466ff255493e72b", func := "dauber/dauberlaw09.DrawBinds", spec := "drawBinds", unfollowed := true, recurses := true, apart := false, narrowed := true }
def DrawBindsUptoSaid : Prop := drawBindsUptoRow.holds Tryz.pinned (OpenSpec.upto drawBindsSpec)

/-- 'dauberlaw09.DrawFair', WHERE WHAT IT READS IS OF BULK AT MOST 1048576: true; the input reads as it did. -/
def drawFairUptoRow : OpenClaim := { program := "ytlbjgnkjicifhaagreat", sum := "afa7db067a94ac54ce854e989e74a74dd56bd6ce5e53de602466ff255493e72b", func := "dauber/dauberlaw09.DrawFair", spec := "drawFair", unfollowed := true, recurses := true, apart := false, narrowed := true }
def DrawFairUptoSaid : Prop := drawFairUptoRow.holds Tryz.pinned (OpenSpec.upto drawFairSpec)

/-- 'dauberlaw09.DrawPosts', WHERE WHAT IT READS IS OF BULK AT MOST 1048576: true; the input reads as it did. -/
def drawPostsUptoRow : OpenClaim := { program := "ytlbjgnkjicifhaagreat", sum := "afa7db067a94ac54ce854e989e74a74dd56bd6ce5e53de602466ff255493e72b", func := "dauber/dauberlaw09.DrawPosts", spec := "drawPosts", unfollowed := true, recurses := true, apart := false, narrowed := true }
def DrawPostsUptoSaid : Prop := drawPostsUptoRow.holds Tryz.pinned (OpenSpec.upto drawPostsSpec)

/-- 'dauberlaw09.DrawEnds', WHERE WHAT IT READS IS OF BULK AT MOST 1048576: true; the input reads as it did. -/
def drawEndsUptoRow : OpenClaim := { program := "ytlbjgnkjicifhaagreat", sum := "afa7db067a94ac54ce854e989e74a74dd56bd6ce5e53de602466ff255493e72b", func := "dauber/dauberlaw09.DrawEnds", spec := "drawEnds", unfollowed := true, recurses := true, apart := false, narrowed := true }
def DrawEndsUptoSaid : Prop := drawEndsUptoRow.holds Tryz.pinned (OpenSpec.upto drawEndsSpec)

/-- 'dauberlaw09.DrawBoards', WHERE WHAT IT READS IS OF BULK AT MOST 1048576: true; the input reads as it did. -/
def drawBoardsUptoRow : OpenClaim := { program := "ytlbjgnkjicifhaagreat", sum := "afa7db067a94ac54ce854e989e74a74dd56bd6ce5e53de602466ff255493e72b", func := "dauber/dauberlaw09.DrawBoards", spec := "drawBoards", unfollowed := true, recurses := true, apart := false, narrowed := true }
def DrawBoardsUptoSaid : Prop := drawBoardsUptoRow.holds Tryz.pinned (OpenSpec.upto drawBoardsSpec)

/-- 'dauberlaw09.DrawMixed', WHERE WHAT IT READS IS OF BULK AT MOST 1048576: true; the input reads as it did. -/
def drawMixedUptoRow : OpenClaim := { program := "ytlbjgnkjicifhaagreat", sum := "afa7db067a94ac54ce854e989e74a74dd56bd6ce5e53de602466ff255493e72b", func := "dauber/dauberlaw09.DrawMixed", spec := "drawMixed", unfollowed := true, recurses := true, apart := false, narrowed := true }
def DrawMixedUptoSaid : Prop := drawMixedUptoRow.holds Tryz.pinned (OpenSpec.upto drawMixedSpec)

/-- 'dauberlaw09.DrawChecks', WHERE WHAT IT READS IS OF BULK AT MOST 1048576: true; the input reads as it did. -/
def drawChecksUptoRow : OpenClaim := { program := "ytlbjgnkjicifhaagreat", sum := "afa7db067a94ac54ce854e989e74a74dd56bd6ce5e53de602466ff255493e72b", func := "dauber/dauberlaw09.DrawChecks", spec := "drawChecks", unfollowed := true, recurses := true, apart := false, narrowed := true }
def DrawChecksUptoSaid : Prop := drawChecksUptoRow.holds Tryz.pinned (OpenSpec.upto drawChecksSpec)

/-- 'dauberlaw08.ShareRecovers', WHERE WHAT IT READS IS OF BULK AT MOST 1048576: true; the input reads as it did. -/
def shareRecoversUptoRow : OpenClaim := { program := "ytlbjgnkjicifhaagreat", sum := "afa7db067a94ac54ce854e989e74a74dd56bd6ce5e53de602466ff255493e72b", func := "dauber/dauberlaw08.ShareRecovers", spec := "shareRecovers", unfollowed := true, recurses := true, apart := false, narrowed := true }
def ShareRecoversUptoSaid : Prop := shareRecoversUptoRow.holds Tryz.pinned (OpenSpec.upto shareRecoversSpec)

end Rows
end Go.Proofs.YtlbjgnkjicifhaaGreat
