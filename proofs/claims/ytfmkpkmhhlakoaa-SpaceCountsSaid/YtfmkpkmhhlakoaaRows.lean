/-
  No cell of these rows narrows 'for every input' (looked for: loops, veiled, ifaces, maps, wideKeys, modest, calm, conditions, laid).
  DERIVED. THE GIVEN ROWS OF THIS SEAT. 9 by the template 'for every input the law returns true; each argument reads behind the call as it read before'; 0 by the template 'total and deterministic' (their statements: YtfmkpkmhhlakoaaTotals.lean).
  GIVEN WITH THE SEED: the statements are not yours to turn. If you find one false, say at which input.
  Laid BY PROGRAM, IN A SANDBOX (cutbox-rows.mjs): the forced cells as the released guide's own fill.sh prints them over the translation c4779b7d2156f331… (all of the seat's roots in one cut). By AI agents, Wed Nov 11 2026. No macro, syntax, notation, axiom, sorry.
-/
import Derived.Test.YtfmkpkmhhlakoaaChecked
import GoSem.Claim
import GoSem.ClaimJoined
import GoSem.ClaimMapViews
import Derived.JoinedTies
import Derived.KernelRfl
namespace Go.Proofs.Ytfmkpkmhhlakoaa
/- THE CELL 'sum', in the pinned program and in every row, IS THE sha256 OF THE DUMP (.gsa) THAT YtfmkpkmhhlakoaaProg.lean LOADS. Nothing in Lean hashes anything: it is a label: what it is worth is what the hold of that sum in a sandbox is worth. -/
noncomputable def Try.pinned : Pinned := { name := "ytfmkpkmhhlakoaa", sum := "c4779b7d2156f331d8ad15d7e98732a7faea917c125dd01521f568bc0f077ce7", checked := Try.checked }
namespace Rows
def none {H : Type} : Left H := { results := [], args := [] }

/-- 'garretlaw24.TableMoves': WHATEVER THE INPUT: true; the input reads as it did. -/
def tableMovesSpec : ChangeSpec := { name := "tableMoves", fn := fun _ => fun
  | [d1, d2, d3] => { results := [.lit (.bool true)], args := [d1, d2, d3] }
  | _ => none }
def tableMovesRow : OpenClaim := { program := "ytfmkpkmhhlakoaa", sum := "c4779b7d2156f331d8ad15d7e98732a7faea917c125dd01521f568bc0f077ce7", func := "garret/garretlaw24.TableMoves", spec := "tableMoves", unfollowed := true, recurses := true, plainKeys := false, apart := false }
def TableMovesSaid : Prop := tableMovesRow.holds Try.pinned (OpenSpec.ofChange tableMovesSpec)

/-- ITS FALSE NEIGHBOUR: 'it returns false'. Refute it at one input. -/
def tableMovesWrong : ChangeSpec := { name := "tableMoves", fn := fun _ => fun
  | [d1, d2, d3] => { results := [.lit (.bool false)], args := [d1, d2, d3] }
  | _ => none }
def TableMovesWrongFalsely : Prop := tableMovesRow.holds Try.pinned (OpenSpec.ofChange tableMovesWrong)

/-- 'garretlaw18.BlocksTell': WHATEVER THE INPUT: true; the input reads as it did. -/
def blocksTellSpec : ChangeSpec := { name := "blocksTell", fn := fun _ => fun
  | [d1, d2, d3, d4, d5, d6, d7, d8] => { results := [.lit (.bool true)], args := [d1, d2, d3, d4, d5, d6, d7, d8] }
  | _ => none }
def blocksTellRow : OpenClaim := { program := "ytfmkpkmhhlakoaa", sum := "c4779b7d2156f331d8ad15d7e98732a7faea917c125dd01521f568bc0f077ce7", func := "garret/garretlaw18.BlocksTell", spec := "blocksTell", unfollowed := true, recurses := true, plainKeys := false, apart := false }
def BlocksTellSaid : Prop := blocksTellRow.holds Try.pinned (OpenSpec.ofChange blocksTellSpec)

/-- ITS FALSE NEIGHBOUR: 'it returns false'. Refute it at one input. -/
def blocksTellWrong : ChangeSpec := { name := "blocksTell", fn := fun _ => fun
  | [d1, d2, d3, d4, d5, d6, d7, d8] => { results := [.lit (.bool false)], args := [d1, d2, d3, d4, d5, d6, d7, d8] }
  | _ => none }
def BlocksTellWrongFalsely : Prop := blocksTellRow.holds Try.pinned (OpenSpec.ofChange blocksTellWrong)

/-- 'garretlaw18.BlocksAll': WHATEVER THE INPUT: true; the input reads as it did. -/
def blocksAllSpec : ChangeSpec := { name := "blocksAll", fn := fun _ => fun
  | [d] => { results := [.lit (.bool true)], args := [d] }
  | _ => none }
def blocksAllRow : OpenClaim := { program := "ytfmkpkmhhlakoaa", sum := "c4779b7d2156f331d8ad15d7e98732a7faea917c125dd01521f568bc0f077ce7", func := "garret/garretlaw18.BlocksAll", spec := "blocksAll", unfollowed := true, recurses := true, plainKeys := false, apart := false }
def BlocksAllSaid : Prop := blocksAllRow.holds Try.pinned (OpenSpec.ofChange blocksAllSpec)

/-- ITS FALSE NEIGHBOUR: 'it returns false'. Refute it at one input. -/
def blocksAllWrong : ChangeSpec := { name := "blocksAll", fn := fun _ => fun
  | [d] => { results := [.lit (.bool false)], args := [d] }
  | _ => none }
def BlocksAllWrongFalsely : Prop := blocksAllRow.holds Try.pinned (OpenSpec.ofChange blocksAllWrong)

/-- 'garretlaw18.BlocksStand': WHATEVER THE INPUT: true; the input reads as it did. -/
def blocksStandSpec : ChangeSpec := { name := "blocksStand", fn := fun _ => fun
  | [d1, d2, d3, d4, d5] => { results := [.lit (.bool true)], args := [d1, d2, d3, d4, d5] }
  | _ => none }
def blocksStandRow : OpenClaim := { program := "ytfmkpkmhhlakoaa", sum := "c4779b7d2156f331d8ad15d7e98732a7faea917c125dd01521f568bc0f077ce7", func := "garret/garretlaw18.BlocksStand", spec := "blocksStand", unfollowed := true, recurses := true, plainKeys := false, apart := false }
def BlocksStandSaid : Prop := blocksStandRow.holds Try.pinned (OpenSpec.ofChange blocksStandSpec)

/-- ITS FALSE NEIGHBOUR: 'it returns false'. Refute it at one input. -/
def blocksStandWrong : ChangeSpec := { name := "blocksStand", fn := fun _ => fun
  | [d1, d2, d3, d4, d5] => { results := [.lit (.bool false)], args := [d1, d2, d3, d4, d5] }
  | _ => none }
def BlocksStandWrongFalsely : Prop := blocksStandRow.holds Try.pinned (OpenSpec.ofChange blocksStandWrong)

/-- 'garretlaw18.BlocksFew': WHATEVER THE INPUT: true; the input reads as it did. -/
def blocksFewSpec : ChangeSpec := { name := "blocksFew", fn := fun _ => fun
  | [d1, d2, d3] => { results := [.lit (.bool true)], args := [d1, d2, d3] }
  | _ => none }
def blocksFewRow : OpenClaim := { program := "ytfmkpkmhhlakoaa", sum := "c4779b7d2156f331d8ad15d7e98732a7faea917c125dd01521f568bc0f077ce7", func := "garret/garretlaw18.BlocksFew", spec := "blocksFew", unfollowed := true, recurses := true, plainKeys := false, apart := false }
def BlocksFewSaid : Prop := blocksFewRow.holds Try.pinned (OpenSpec.ofChange blocksFewSpec)

/-- ITS FALSE NEIGHBOUR: 'it returns false'. Refute it at one input. -/
def blocksFewWrong : ChangeSpec := { name := "blocksFew", fn := fun _ => fun
  | [d1, d2, d3] => { results := [.lit (.bool false)], args := [d1, d2, d3] }
  | _ => none }
def BlocksFewWrongFalsely : Prop := blocksFewRow.holds Try.pinned (OpenSpec.ofChange blocksFewWrong)

/-- 'garretlaw24.TablePlays': WHATEVER THE INPUT: true; the input reads as it did. -/
def tablePlaysSpec : ChangeSpec := { name := "tablePlays", fn := fun _ => fun
  | [d] => { results := [.lit (.bool true)], args := [d] }
  | _ => none }
def tablePlaysRow : OpenClaim := { program := "ytfmkpkmhhlakoaa", sum := "c4779b7d2156f331d8ad15d7e98732a7faea917c125dd01521f568bc0f077ce7", func := "garret/garretlaw24.TablePlays", spec := "tablePlays", unfollowed := true, recurses := true, plainKeys := false, apart := false }
def TablePlaysSaid : Prop := tablePlaysRow.holds Try.pinned (OpenSpec.ofChange tablePlaysSpec)

/-- ITS FALSE NEIGHBOUR: 'it returns false'. Refute it at one input. -/
def tablePlaysWrong : ChangeSpec := { name := "tablePlays", fn := fun _ => fun
  | [d] => { results := [.lit (.bool false)], args := [d] }
  | _ => none }
def TablePlaysWrongFalsely : Prop := tablePlaysRow.holds Try.pinned (OpenSpec.ofChange tablePlaysWrong)

/-- 'garretlaw24.TableLeast': WHATEVER THE INPUT: true; the input reads as it did. -/
def tableLeastSpec : ChangeSpec := { name := "tableLeast", fn := fun _ => fun
  | [d1, d2] => { results := [.lit (.bool true)], args := [d1, d2] }
  | _ => none }
def tableLeastRow : OpenClaim := { program := "ytfmkpkmhhlakoaa", sum := "c4779b7d2156f331d8ad15d7e98732a7faea917c125dd01521f568bc0f077ce7", func := "garret/garretlaw24.TableLeast", spec := "tableLeast", unfollowed := true, recurses := true, plainKeys := false, apart := false }
def TableLeastSaid : Prop := tableLeastRow.holds Try.pinned (OpenSpec.ofChange tableLeastSpec)

/-- ITS FALSE NEIGHBOUR: 'it returns false'. Refute it at one input. -/
def tableLeastWrong : ChangeSpec := { name := "tableLeast", fn := fun _ => fun
  | [d1, d2] => { results := [.lit (.bool false)], args := [d1, d2] }
  | _ => none }
def TableLeastWrongFalsely : Prop := tableLeastRow.holds Try.pinned (OpenSpec.ofChange tableLeastWrong)

/-- 'garretlaw24.TableShared': WHATEVER THE INPUT: true; the input reads as it did. -/
def tableSharedSpec : ChangeSpec := { name := "tableShared", fn := fun _ => fun
  | [d1, d2, d3] => { results := [.lit (.bool true)], args := [d1, d2, d3] }
  | _ => none }
def tableSharedRow : OpenClaim := { program := "ytfmkpkmhhlakoaa", sum := "c4779b7d2156f331d8ad15d7e98732a7faea917c125dd01521f568bc0f077ce7", func := "garret/garretlaw24.TableShared", spec := "tableShared", unfollowed := true, recurses := true, plainKeys := false, apart := false }
def TableSharedSaid : Prop := tableSharedRow.holds Try.pinned (OpenSpec.ofChange tableSharedSpec)

/-- ITS FALSE NEIGHBOUR: 'it returns false'. Refute it at one input. -/
def tableSharedWrong : ChangeSpec := { name := "tableShared", fn := fun _ => fun
  | [d1, d2, d3] => { results := [.lit (.bool false)], args := [d1, d2, d3] }
  | _ => none }
def TableSharedWrongFalsely : Prop := tableSharedRow.holds Try.pinned (OpenSpec.ofChange tableSharedWrong)

/-- 'garretlaw27.SpaceCounts': WHATEVER THE INPUT: true; the input reads as it did. -/
def spaceCountsSpec : ChangeSpec := { name := "spaceCounts", fn := fun _ => fun
  | [d1, d2, d3, d4] => { results := [.lit (.bool true)], args := [d1, d2, d3, d4] }
  | _ => none }
def spaceCountsRow : OpenClaim := { program := "ytfmkpkmhhlakoaa", sum := "c4779b7d2156f331d8ad15d7e98732a7faea917c125dd01521f568bc0f077ce7", func := "garret/garretlaw27.SpaceCounts", spec := "spaceCounts", inPlace := ["slices.overlaps[garret/api.Inode]", "slices.overlaps[int]"], unfollowed := true, recurses := true, plainKeys := false, apart := false }
def SpaceCountsSaid : Prop := spaceCountsRow.holds Try.pinned (OpenSpec.ofChange spaceCountsSpec)

/-- ITS FALSE NEIGHBOUR: 'it returns false'. Refute it at one input. -/
def spaceCountsWrong : ChangeSpec := { name := "spaceCounts", fn := fun _ => fun
  | [d1, d2, d3, d4] => { results := [.lit (.bool false)], args := [d1, d2, d3, d4] }
  | _ => none }
def SpaceCountsWrongFalsely : Prop := spaceCountsRow.holds Try.pinned (OpenSpec.ofChange spaceCountsWrong)

/- THE SECOND FORM. 'bulk': how many values and letters a reading holds, each counted each time it is reached (what is shared counts as often as it is met; a slice's spare places count too). A statement '..UptoSaid' is the law's where the arguments, and the package variables that the reading takes, are together of bulk at most 1048576: NARROWER than '..Said'. Prove '..Said' where nothing that the law and all that it calls make is longer than what came in: it says more and counts as full. Else prove '..UptoSaid'. A law counts once. -/
mutual
def uptoBulk {H : Type} : DataW H → Nat
  | .lit (.string bytes) => bytes.length + 1
  | .lit _ => 1
  | .nil => 1
  | .ptr d => uptoBulk d + 1
  | .slice elems spare => uptoBulkAll elems + uptoBulkAll spare + 1
  | .agg parts => uptoBulkAll parts + 1
  | .iface _ d => uptoBulk d + 1
  | .map entries => uptoBulkEntries entries + 1
  | .held _ => 1
def uptoBulkAll {H : Type} : List (DataW H) → Nat
  | [] => 0
  | d :: r => uptoBulk d + uptoBulkAll r
def uptoBulkEntries {H : Type} : List (Lit × DataW H) → Nat
  | [] => 0
  | x :: r => uptoBulkEntry x + uptoBulkEntries r
def uptoBulkEntry {H : Type} : Lit × DataW H → Nat
  | (.string bytes, d) => bytes.length + uptoBulk d + 1
  | (_, d) => uptoBulk d + 1
 end
def uptoSmall : (H : Type) → List (DataW H) → Bool := fun _ ds => decide (uptoBulkAll ds ≤ 1048576)
def OpenSpec.upto (s : _root_.Go.ChangeSpec) : _root_.Go.OpenSpec := { _root_.Go.OpenSpec.ofChange s with cond := some uptoSmall }

/-- 'garretlaw24.TableMoves', WHERE WHAT IT READS IS OF BULK AT MOST 1048576: true; the input reads as it did. -/
def tableMovesUptoRow : OpenClaim := { program := "ytfmkpkmhhlakoaa", sum := "c4779b7d2156f331d8ad15d7e98732a7faea917c125dd01521f568bc0f077ce7", func := "garret/garretlaw24.TableMoves", spec := "tableMoves", unfollowed := true, recurses := true, plainKeys := false, apart := false, narrowed := true }
def TableMovesUptoSaid : Prop := tableMovesUptoRow.holds Try.pinned (OpenSpec.upto tableMovesSpec)

/-- 'garretlaw18.BlocksTell', WHERE WHAT IT READS IS OF BULK AT MOST 1048576: true; the input reads as it did. -/
def blocksTellUptoRow : OpenClaim := { program := "ytfmkpkmhhlakoaa", sum := "c4779b7d2156f331d8ad15d7e98732a7faea917c125dd01521f568bc0f077ce7", func := "garret/garretlaw18.BlocksTell", spec := "blocksTell", unfollowed := true, recurses := true, plainKeys := false, apart := false, narrowed := true }
def BlocksTellUptoSaid : Prop := blocksTellUptoRow.holds Try.pinned (OpenSpec.upto blocksTellSpec)

/-- 'garretlaw18.BlocksAll', WHERE WHAT IT READS IS OF BULK AT MOST 1048576: true; the input reads as it did. -/
def blocksAllUptoRow : OpenClaim := { program := "ytfmkpkmhhlakoaa", sum := "c4779b7d2156f331d8ad15d7e98732a7faea917c125dd01521f568bc0f077ce7", func := "garret/garretlaw18.BlocksAll", spec := "blocksAll", unfollowed := true, recurses := true, plainKeys := false, apart := false, narrowed := true }
def BlocksAllUptoSaid : Prop := blocksAllUptoRow.holds Try.pinned (OpenSpec.upto blocksAllSpec)

/-- 'garretlaw18.BlocksStand', WHERE WHAT IT READS IS OF BULK AT MOST 1048576: true; the input reads as it did. -/
def blocksStandUptoRow : OpenClaim := { program := "ytfmkpkmhhlakoaa", sum := "c4779b7d2156f331d8ad15d7e98732a7faea917c125dd01521f568bc0f077ce7", func := "garret/garretlaw18.BlocksStand", spec := "blocksStand", unfollowed := true, recurses := true, plainKeys := false, apart := false, narrowed := true }
def BlocksStandUptoSaid : Prop := blocksStandUptoRow.holds Try.pinned (OpenSpec.upto blocksStandSpec)

/-- 'garretlaw18.BlocksFew', WHERE WHAT IT READS IS OF BULK AT MOST 1048576: true; the input reads as it did. -/
def blocksFewUptoRow : OpenClaim := { program := "ytfmkpkmhhlakoaa", sum := "c4779b7d2156f331d8ad15d7e98732a7faea917c125dd01521f568bc0f077ce7", func := "garret/garretlaw18.BlocksFew", spec := "blocksFew", unfollowed := true, recurses := true, plainKeys := false, apart := false, narrowed := true }
def BlocksFewUptoSaid : Prop := blocksFewUptoRow.holds Try.pinned (OpenSpec.upto blocksFewSpec)

/-- 'garretlaw24.TablePlays', WHERE WHAT IT READS IS OF BULK AT MOST 1048576: true; the input reads as it did. -/
def tablePlaysUptoRow : OpenClaim := { program := "ytfmkpkmhhlakoaa", sum := "c4779b7d2156f331d8ad15d7e98732a7faea917c125dd01521f568bc0f077ce7", func := "garret/garretlaw24.TablePlays", spec := "tablePlays", unfollowed := true, recurses := true, plainKeys := false, apart := false, narrowed := true }
def TablePlaysUptoSaid : Prop := tablePlaysUptoRow.holds Try.pinned (OpenSpec.upto tablePlaysSpec)

/-- 'garretlaw24.TableLeast', WHERE WHAT IT READS IS OF BULK AT MOST 1048576: true; the input reads as it did. -/
def tableLeastUptoRow : OpenClaim := { program := "ytfmkpkmhhlakoaa", sum := "c4779b7d2156f331d8ad15d7e98732a7faea917c125dd01521f568bc0f077ce7", func := "garret/garretlaw24.TableLeast", spec := "tableLeast", unfollowed := true, recurses := true, plainKeys := false, apart := false, narrowed := true }
def TableLeastUptoSaid : Prop := tableLeastUptoRow.holds Try.pinned (OpenSpec.upto tableLeastSpec)

/-- 'garretlaw24.TableShared', WHERE WHAT IT READS IS OF BULK AT MOST 1048576: true; the input reads as it did. -/
def tableSharedUptoRow : OpenClaim := { program := "ytfmkpkmhhlakoaa", sum := "c4779b7d2156f331d8ad15d7e98732a7faea917c125dd01521f568bc0f077ce7", func := "garret/garretlaw24.TableShared", spec := "tableShared", unfollowed := true, recurses := true, plainKeys := false, apart := false, narrowed := true }
def TableSharedUptoSaid : Prop := tableSharedUptoRow.holds Try.pinned (OpenSpec.upto tableSharedSpec)

/-- 'garretlaw27.SpaceCounts', WHERE WHAT IT READS IS OF BULK AT MOST 1048576: true; the input reads as it did. -/
def spaceCountsUptoRow : OpenClaim := { program := "ytfmkpkmhhlakoaa", sum := "c4779b7d2156f331d8ad15d7e98732a7faea917c125dd01521f568bc0f077ce7", func := "garret/garretlaw27.SpaceCounts", spec := "spaceCounts", inPlace := ["slices.overlaps[garret/api.Inode]", "slices.overlaps[int]"], unfollowed := true, recurses := true, plainKeys := false, apart := false, narrowed := true }
def SpaceCountsUptoSaid : Prop := spaceCountsUptoRow.holds Try.pinned (OpenSpec.upto spaceCountsSpec)

end Rows
end Go.Proofs.Ytfmkpkmhhlakoaa
