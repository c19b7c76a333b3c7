/-
  No cell of these rows narrows 'for every input' (looked for: loops, veiled, ifaces, maps, wideKeys, modest, calm, conditions, laid).
  DERIVED. THE GIVEN ROWS OF THIS SEAT. 3 by the template 'for every input the law returns true; each argument reads behind the call as it read before'; 0 by the template 'total and deterministic' (their statements: YtbbaoeidobdblaaTotals.lean).
  GIVEN WITH THE SEED: the statements are not yours to turn. If you find one false, say at which input.
  Laid BY PROGRAM, IN A SANDBOX (cutbox-rows.mjs): the forced cells as the released guide's own fill.sh prints them over the translation d8f693b68d062f2e… (all of the seat's roots in one cut). By AI agents, Wed Nov 11 2026. No macro, syntax, notation, axiom, sorry.
-/
import Derived.Test.YtbbaoeidobdblaaChecked
import GoSem.Claim
import GoSem.ClaimJoined
import GoSem.ClaimMapViews
import Derived.JoinedTies
import Derived.KernelRfl
namespace Go.Proofs.Ytbbaoeidobdblaa
/- THE CELL 'sum', in the pinned program and in every row, IS THE sha256 OF THE DUMP (.gsa) THAT YtbbaoeidobdblaaProg.lean LOADS. Nothing in Lean hashes anything: it is a label: what it is worth is what the hold of that sum in a sandbox is worth. -/
noncomputable def Try.pinned : Pinned := { name := "ytbbaoeidobdblaa", sum := "d8f693b68d062f2eca498da71585899a16ec6143da372322f5e9df89bdb2a19a", checked := Try.checked }
namespace Rows
def none {H : Type} : Left H := { results := [], args := [] }

/-- 'garretlaw27.SpaceJournal': WHATEVER THE INPUT: true; the input reads as it did. -/
def spaceJournalSpec : ChangeSpec := { name := "spaceJournal", fn := fun _ => fun
  | [d1, d2, d3] => { results := [.lit (.bool true)], args := [d1, d2, d3] }
  | _ => none }
def spaceJournalRow : OpenClaim := { program := "ytbbaoeidobdblaa", sum := "d8f693b68d062f2eca498da71585899a16ec6143da372322f5e9df89bdb2a19a", func := "garret/garretlaw27.SpaceJournal", spec := "spaceJournal", inPlace := ["internal/bytealg.MakeNoZero", "slices.overlaps[garret/api.Inode]", "slices.overlaps[int]"], unfollowed := true, recurses := true, plainKeys := false, apart := false }
def SpaceJournalSaid : Prop := spaceJournalRow.holds Try.pinned (OpenSpec.ofChange spaceJournalSpec)

/-- ITS FALSE NEIGHBOUR: 'it returns false'. Refute it at one input. -/
def spaceJournalWrong : ChangeSpec := { name := "spaceJournal", fn := fun _ => fun
  | [d1, d2, d3] => { results := [.lit (.bool false)], args := [d1, d2, d3] }
  | _ => none }
def SpaceJournalWrongFalsely : Prop := spaceJournalRow.holds Try.pinned (OpenSpec.ofChange spaceJournalWrong)

/-- 'garretlaw18.BlocksTell': WHATEVER THE INPUT: true; the input reads as it did. -/
def blocksTellSpec : ChangeSpec := { name := "blocksTell", fn := fun _ => fun
  | [d1, d2, d3, d4, d5, d6, d7, d8] => { results := [.lit (.bool true)], args := [d1, d2, d3, d4, d5, d6, d7, d8] }
  | _ => none }
def blocksTellRow : OpenClaim := { program := "ytbbaoeidobdblaa", sum := "d8f693b68d062f2eca498da71585899a16ec6143da372322f5e9df89bdb2a19a", func := "garret/garretlaw18.BlocksTell", spec := "blocksTell", unfollowed := true, recurses := true, plainKeys := false, apart := false }
def BlocksTellSaid : Prop := blocksTellRow.holds Try.pinned (OpenSpec.ofChange blocksTellSpec)

/-- ITS FALSE NEIGHBOUR: 'it returns false'. Refute it at one input. -/
def blocksTellWrong : ChangeSpec := { name := "blocksTell", fn := fun _ => fun
  | [d1, d2, d3, d4, d5, d6, d7, d8] => { results := [.lit (.bool false)], args := [d1, d2, d3, d4, d5, d6, d7, d8] }
  | _ => none }
def BlocksTellWrongFalsely : Prop := blocksTellRow.holds Try.pinned (OpenSpec.ofChange blocksTellWrong)

/-- 'garretlaw18.BlocksAll': WHATEVER THE INPUT: true; the input reads as it did. -/
def blocksAllSpec : ChangeSpec := { name := "blocksAll", fn := fun _ => fun
  | [d] => { results := [.lit (.bool true)], args := [d] }
  | _ => none }
def blocksAllRow : OpenClaim := { program := "ytbbaoeidobdblaa", sum := "d8f693b68d062f2eca498da71585899a16ec6143da372322f5e9df89bdb2a19a", func := "garret/garretlaw18.BlocksAll", spec := "blocksAll", unfollowed := true, recurses := true, plainKeys := false, apart := false }
def BlocksAllSaid : Prop := blocksAllRow.holds Try.pinned (OpenSpec.ofChange blocksAllSpec)

/-- ITS FALSE NEIGHBOUR: 'it returns false'. Refute it at one input. -/
def blocksAllWrong : ChangeSpec := { name := "blocksAll", fn := fun _ => fun
  | [d] => { results := [.lit (.bool false)], args := [d] }
  | _ => none }
def BlocksAllWrongFalsely : Prop := blocksAllRow.holds Try.pinned (OpenSpec.ofChange blocksAllWrong)

/- THE SECOND FORM. 'bulk': how many values and letters a reading holds, each counted each time it is reached (what is shared counts as often as it is met; a slice's spare places count too). A statement '..UptoSaid' is the law's where the arguments, and the package variables that the reading takes, are together of bulk at most 1048576: NARROWER than '..Said'. Prove '..Said' where nothing that the law and all that it calls make is longer than what came in: it says more and counts as full. Else prove '..UptoSaid'. A law counts once. -/
mutual
def uptoBulk {H : Type} : DataW H → Nat
  | .lit (.string bytes) => bytes.length + 1
  | .lit _ => 1
  | .nil => 1
  | .ptr d => uptoBulk d + 1
  | .slice elems spare => uptoBulkAll elems + uptoBulkAll spare + 1
  | .agg parts => uptoBulkAll parts + 1
  | .iface _ d => uptoBulk d + 1
  | .map entries => uptoBulkEntries entries + 1
  | .held _ => 1
def uptoBulkAll {H : Type} : List (DataW H) → Nat
  | [] => 0
  | d :: r => uptoBulk d + uptoBulkAll r
def uptoBulkEntries {H : Type} : List (Lit × DataW H) → Nat
  | [] => 0
  | x :: r => uptoBulkEntry x + uptoBulkEntries r
def uptoBulkEntry {H : Type} : Lit × DataW H → Nat
  | (.string bytes, d) => bytes.length + uptoBulk d + 1
  | (_, d) => uptoBulk d + 1
 end
def uptoSmall : (H : Type) → List (DataW H) → Bool := fun _ ds => decide (uptoBulkAll ds ≤ 1048576)
def OpenSpec.upto (s : _root_.Go.ChangeSpec) : _root_.Go.OpenSpec := { _root_.Go.OpenSpec.ofChange s with cond := some uptoSmall }

/-- 'garretlaw27.SpaceJournal', WHERE WHAT IT READS IS OF BULK AT MOST 1048576: true; the input reads as it did. -/
def spaceJournalUptoRow : OpenClaim := { program := "ytbbaoeidobdblaa", sum := "d8f693b68d062f2eca498da71585899a16ec6143da372322f5e9df89bdb2a19a", func := "garret/garretlaw27.SpaceJournal", spec := "spaceJournal", inPlace := ["internal/bytealg.MakeNoZero", "slices.overlaps[garret/api.Inode]", "slices.overlaps[int]"], unfollowed := true, recurses := true, plainKeys := false, apart := false, narrowed := true }
def SpaceJournalUptoSaid : Prop := spaceJournalUptoRow.holds Try.pinned (OpenSpec.upto spaceJournalSpec)

/-- 'garretlaw18.BlocksTell', WHERE WHAT IT READS IS OF BULK AT MOST 1048576: true; the input reads as it did. -/
def blocksTellUptoRow : OpenClaim := { program := "ytbbaoeidobdblaa", sum := "d8f693b68d062f2eca498da71585899a16ec6143da372322f5e9df89bdb2a19a", func := "garret/garretlaw18.BlocksTell", spec := "blocksTell", unfollowed := true, recurses := true, plainKeys := false, apart := false, narrowed := true }
def BlocksTellUptoSaid : Prop := blocksTellUptoRow.holds Try.pinned (OpenSpec.upto blocksTellSpec)

/-- 'garretlaw18.BlocksAll', WHERE WHAT IT READS IS OF BULK AT MOST 1048576: true; the input reads as it did. -/
def blocksAllUptoRow : OpenClaim := { program := "ytbbaoeidobdblaa", sum := "d8f693b68d062f2eca498da71585899a16ec6143da372322f5e9df89bdb2a19a", func := "garret/garretlaw18.BlocksAll", spec := "blocksAll", unfollowed := true, recurses := true, plainKeys := false, apart := false, narrowed := true }
def BlocksAllUptoSaid : Prop := blocksAllUptoRow.holds Try.pinned (OpenSpec.upto blocksAllSpec)

end Rows
end Go.Proofs.Ytbbaoeidobdblaa
