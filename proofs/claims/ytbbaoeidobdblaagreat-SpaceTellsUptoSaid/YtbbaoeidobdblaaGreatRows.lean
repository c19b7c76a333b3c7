/-
  No cell of these rows narrows 'for every input' (looked for: loops, veiled, ifaces, maps, wideKeys, modest, calm, conditions, laid).
  DERIVED. THE GIVEN ROWS OF THIS SEAT. 8 by the template 'for every input the law returns true; each argument reads behind the call as it read before'; 0 by the template 'total and deterministic' (their statements: YtbbaoeidobdblaaGreatTotals.lean).
  GIVEN WITH THE SEED: the statements are not yours to turn. If you find one false, say at which input.
  Laid BY PROGRAM, IN A SANDBOX (cutbox-rows.mjs): the forced cells as the released guide's own fill.sh prints them over the translation ca4737accce8c455… (all of the seat's roots in one cut). By AI agents, Wed Nov 11 2026. No macro, syntax, notation, axiom, sorry.
-/
import Derived.Test.YtbbaoeidobdblaaGreatChecked
import GoSem.Claim
import GoSem.ClaimJoined
import GoSem.ClaimMapViews
import Derived.JoinedTies
import Derived.KernelRfl
namespace Go.Proofs.YtbbaoeidobdblaaGreat
/- THE CELL 'sum', in the pinned program and in every row, IS THE sha256 OF THE DUMP (.gsa) THAT YtbbaoeidobdblaaGreatProg.lean LOADS. Nothing in Lean hashes anything: it is a label: what it is worth is what the hold of that sum in a sandbox is worth. -/
noncomputable def Tryz.pinned : Pinned := { name := "ytbbaoeidobdblaagreat", sum := "ca4737accce8c45542b574b3e970e3ee351952113eb0bb4ae2ed52866f0363aa", checked := Tryz.checked }
namespace Rows
def none {H : Type} : Left H := { results := [], args := [] }

/-- 'garretlaw17.JournalRoom': WHATEVER THE INPUT: true; the input reads as it did. -/
def journalRoomSpec : ChangeSpec := { name := "journalRoom", fn := fun _ => fun
  | [d1, d2] => { results := [.lit (.bool true)], args := [d1, d2] }
  | _ => none }
def journalRoomRow : OpenClaim := { program := "ytbbaoeidobdblaagreat", sum := "ca4737accce8c45542b574b3e970e3ee351952113eb0bb4ae2ed52866f0363aa", func := "garret/garretlaw17.JournalRoom", spec := "journalRoom", inPlace := ["internal/bytealg.MakeNoZero", "slices.overlaps[garret/api.Inode]", "slices.overlaps[int]", "internal/bytealg.Count", "internal/bytealg.IndexByte", "internal/bytealg.Index"], unfollowed := true, recurses := true, named := ["internal/bytealg.MaxLen"], plainKeys := false, apart := false }
def JournalRoomSaid : Prop := journalRoomRow.holds Tryz.pinned (OpenSpec.ofChange journalRoomSpec)

/-- ITS FALSE NEIGHBOUR: 'it returns false'. Refute it at one input. -/
def journalRoomWrong : ChangeSpec := { name := "journalRoom", fn := fun _ => fun
  | [d1, d2] => { results := [.lit (.bool false)], args := [d1, d2] }
  | _ => none }
def JournalRoomWrongFalsely : Prop := journalRoomRow.holds Tryz.pinned (OpenSpec.ofChange journalRoomWrong)

/-- 'garretlaw17.JournalAgain': WHATEVER THE INPUT: true; the input reads as it did. -/
def journalAgainSpec : ChangeSpec := { name := "journalAgain", fn := fun _ => fun
  | [d1, d2] => { results := [.lit (.bool true)], args := [d1, d2] }
  | _ => none }
def journalAgainRow : OpenClaim := { program := "ytbbaoeidobdblaagreat", sum := "ca4737accce8c45542b574b3e970e3ee351952113eb0bb4ae2ed52866f0363aa", func := "garret/garretlaw17.JournalAgain", spec := "journalAgain", inPlace := ["internal/bytealg.MakeNoZero", "slices.overlaps[garret/api.Inode]", "slices.overlaps[int]", "internal/bytealg.Count", "internal/bytealg.IndexByte", "internal/bytealg.Index"], unfollowed := true, recurses := true, named := ["internal/bytealg.MaxLen"], plainKeys := false, apart := false }
def JournalAgainSaid : Prop := journalAgainRow.holds Tryz.pinned (OpenSpec.ofChange journalAgainSpec)

/-- ITS FALSE NEIGHBOUR: 'it returns false'. Refute it at one input. -/
def journalAgainWrong : ChangeSpec := { name := "journalAgain", fn := fun _ => fun
  | [d1, d2] => { results := [.lit (.bool false)], args := [d1, d2] }
  | _ => none }
def JournalAgainWrongFalsely : Prop := journalAgainRow.holds Tryz.pinned (OpenSpec.ofChange journalAgainWrong)

/-- 'garretlaw17.JournalFalls': WHATEVER THE INPUT: true; the input reads as it did. -/
def journalFallsSpec : ChangeSpec := { name := "journalFalls", fn := fun _ => fun
  | [d1, d2, d3, d4, d5, d6] => { results := [.lit (.bool true)], args := [d1, d2, d3, d4, d5, d6] }
  | _ => none }
def journalFallsRow : OpenClaim := { program := "ytbbaoeidobdblaagreat", sum := "ca4737accce8c45542b574b3e970e3ee351952113eb0bb4ae2ed52866f0363aa", func := "garret/garretlaw17.JournalFalls", spec := "journalFalls", inPlace := ["internal/bytealg.MakeNoZero", "slices.overlaps[garret/api.Inode]", "slices.overlaps[int]", "internal/bytealg.Count", "internal/bytealg.IndexByte", "internal/bytealg.Index"], unfollowed := true, recurses := true, named := ["internal/bytealg.MaxLen"], plainKeys := false, apart := false }
def JournalFallsSaid : Prop := journalFallsRow.holds Tryz.pinned (OpenSpec.ofChange journalFallsSpec)

/-- ITS FALSE NEIGHBOUR: 'it returns false'. Refute it at one input. -/
def journalFallsWrong : ChangeSpec := { name := "journalFalls", fn := fun _ => fun
  | [d1, d2, d3, d4, d5, d6] => { results := [.lit (.bool false)], args := [d1, d2, d3, d4, d5, d6] }
  | _ => none }
def JournalFallsWrongFalsely : Prop := journalFallsRow.holds Tryz.pinned (OpenSpec.ofChange journalFallsWrong)

/-- 'garretlaw17.JournalTurns': WHATEVER THE INPUT: true; the input reads as it did. -/
def journalTurnsSpec : ChangeSpec := { name := "journalTurns", fn := fun _ => fun
  | [d1, d2, d3] => { results := [.lit (.bool true)], args := [d1, d2, d3] }
  | _ => none }
def journalTurnsRow : OpenClaim := { program := "ytbbaoeidobdblaagreat", sum := "ca4737accce8c45542b574b3e970e3ee351952113eb0bb4ae2ed52866f0363aa", func := "garret/garretlaw17.JournalTurns", spec := "journalTurns", inPlace := ["internal/bytealg.MakeNoZero", "slices.overlaps[garret/api.Inode]", "slices.overlaps[int]", "internal/bytealg.Count", "internal/bytealg.IndexByte", "internal/bytealg.Index"], unfollowed := true, recurses := true, named := ["internal/bytealg.MaxLen"], plainKeys := false, apart := false }
def JournalTurnsSaid : Prop := journalTurnsRow.holds Tryz.pinned (OpenSpec.ofChange journalTurnsSpec)

/-- ITS FALSE NEIGHBOUR: 'it returns false'. Refute it at one input. -/
def journalTurnsWrong : ChangeSpec := { name := "journalTurns", fn := fun _ => fun
  | [d1, d2, d3] => { results := [.lit (.bool false)], args := [d1, d2, d3] }
  | _ => none }
def JournalTurnsWrongFalsely : Prop := journalTurnsRow.holds Tryz.pinned (OpenSpec.ofChange journalTurnsWrong)

/-- 'garretlaw17.JournalPlays': WHATEVER THE INPUT: true; the input reads as it did. -/
def journalPlaysSpec : ChangeSpec := { name := "journalPlays", fn := fun _ => fun
  | [d1, d2] => { results := [.lit (.bool true)], args := [d1, d2] }
  | _ => none }
def journalPlaysRow : OpenClaim := { program := "ytbbaoeidobdblaagreat", sum := "ca4737accce8c45542b574b3e970e3ee351952113eb0bb4ae2ed52866f0363aa", func := "garret/garretlaw17.JournalPlays", spec := "journalPlays", inPlace := ["internal/bytealg.MakeNoZero", "slices.overlaps[garret/api.Inode]", "slices.overlaps[int]", "internal/bytealg.Count", "internal/bytealg.IndexByte", "internal/bytealg.Index"], unfollowed := true, recurses := true, named := ["internal/bytealg.MaxLen"], plainKeys := false, apart := false }
def JournalPlaysSaid : Prop := journalPlaysRow.holds Tryz.pinned (OpenSpec.ofChange journalPlaysSpec)

/-- ITS FALSE NEIGHBOUR: 'it returns false'. Refute it at one input. -/
def journalPlaysWrong : ChangeSpec := { name := "journalPlays", fn := fun _ => fun
  | [d1, d2] => { results := [.lit (.bool false)], args := [d1, d2] }
  | _ => none }
def JournalPlaysWrongFalsely : Prop := journalPlaysRow.holds Tryz.pinned (OpenSpec.ofChange journalPlaysWrong)

/-- 'garretlaw17.JournalImages': WHATEVER THE INPUT: true; the input reads as it did. -/
def journalImagesSpec : ChangeSpec := { name := "journalImages", fn := fun _ => fun
  | [d1, d2, d3, d4, d5, d6, d7] => { results := [.lit (.bool true)], args := [d1, d2, d3, d4, d5, d6, d7] }
  | _ => none }
def journalImagesRow : OpenClaim := { program := "ytbbaoeidobdblaagreat", sum := "ca4737accce8c45542b574b3e970e3ee351952113eb0bb4ae2ed52866f0363aa", func := "garret/garretlaw17.JournalImages", spec := "journalImages", inPlace := ["internal/bytealg.MakeNoZero", "slices.overlaps[garret/api.Inode]", "slices.overlaps[int]", "internal/bytealg.Count", "internal/bytealg.IndexByte", "internal/bytealg.Index"], unfollowed := true, recurses := true, named := ["internal/bytealg.MaxLen"], plainKeys := false, apart := false }
def JournalImagesSaid : Prop := journalImagesRow.holds Tryz.pinned (OpenSpec.ofChange journalImagesSpec)

/-- ITS FALSE NEIGHBOUR: 'it returns false'. Refute it at one input. -/
def journalImagesWrong : ChangeSpec := { name := "journalImages", fn := fun _ => fun
  | [d1, d2, d3, d4, d5, d6, d7] => { results := [.lit (.bool false)], args := [d1, d2, d3, d4, d5, d6, d7] }
  | _ => none }
def JournalImagesWrongFalsely : Prop := journalImagesRow.holds Tryz.pinned (OpenSpec.ofChange journalImagesWrong)

/-- 'garretlaw17.JournalNew': WHATEVER THE INPUT: true; the input reads as it did. -/
def journalNewSpec : ChangeSpec := { name := "journalNew", fn := fun _ => fun
  | [d1, d2, d3] => { results := [.lit (.bool true)], args := [d1, d2, d3] }
  | _ => none }
def journalNewRow : OpenClaim := { program := "ytbbaoeidobdblaagreat", sum := "ca4737accce8c45542b574b3e970e3ee351952113eb0bb4ae2ed52866f0363aa", func := "garret/garretlaw17.JournalNew", spec := "journalNew", inPlace := ["internal/bytealg.MakeNoZero", "slices.overlaps[garret/api.Inode]", "slices.overlaps[int]", "internal/bytealg.Count", "internal/bytealg.IndexByte", "internal/bytealg.Index"], unfollowed := true, recurses := true, named := ["internal/bytealg.MaxLen"], plainKeys := false, apart := false }
def JournalNewSaid : Prop := journalNewRow.holds Tryz.pinned (OpenSpec.ofChange journalNewSpec)

/-- ITS FALSE NEIGHBOUR: 'it returns false'. Refute it at one input. -/
def journalNewWrong : ChangeSpec := { name := "journalNew", fn := fun _ => fun
  | [d1, d2, d3] => { results := [.lit (.bool false)], args := [d1, d2, d3] }
  | _ => none }
def JournalNewWrongFalsely : Prop := journalNewRow.holds Tryz.pinned (OpenSpec.ofChange journalNewWrong)

/-- 'garretlaw27.SpaceTells': WHATEVER THE INPUT: true; the input reads as it did. -/
def spaceTellsSpec : ChangeSpec := { name := "spaceTells", fn := fun _ => fun
  | [d1, d2, d3, d4, d5, d6] => { results := [.lit (.bool true)], args := [d1, d2, d3, d4, d5, d6] }
  | _ => none }
def spaceTellsRow : OpenClaim := { program := "ytbbaoeidobdblaagreat", sum := "ca4737accce8c45542b574b3e970e3ee351952113eb0bb4ae2ed52866f0363aa", func := "garret/garretlaw27.SpaceTells", spec := "spaceTells", inPlace := ["slices.overlaps[garret/api.Inode]", "slices.overlaps[int]"], unfollowed := true, recurses := true, plainKeys := false, apart := false }
def SpaceTellsSaid : Prop := spaceTellsRow.holds Tryz.pinned (OpenSpec.ofChange spaceTellsSpec)

/-- ITS FALSE NEIGHBOUR: 'it returns false'. Refute it at one input. -/
def spaceTellsWrong : ChangeSpec := { name := "spaceTells", fn := fun _ => fun
  | [d1, d2, d3, d4, d5, d6] => { results := [.lit (.bool false)], args := [d1, d2, d3, d4, d5, d6] }
  | _ => none }
def SpaceTellsWrongFalsely : Prop := spaceTellsRow.holds Tryz.pinned (OpenSpec.ofChange spaceTellsWrong)

/- THE SECOND FORM. 'bulk': how many values and letters a reading holds, each counted each time it is reached (what is shared counts as often as it is met; a slice's spare places count too). A statement '..UptoSaid' is the law's where the arguments, and the package variables that the reading takes, are together of bulk at most 1048576: NARROWER than '..Said'. Prove '..Said' where nothing that the law and all that it calls make is longer than what came in: it says more and counts as full. Else prove '..UptoSaid'. A law counts once. -/
mutual
def uptoBulk {H : Type} : DataW H → Nat
  | .lit (.string bytes) => bytes.length + 1
  | .lit _ => 1
  | .nil => 1
  | .ptr d => uptoBulk d + 1
  | .slice elems spare => uptoBulkAll elems + uptoBulkAll spare + 1
  | .agg parts => uptoBulkAll parts + 1
  | .iface _ d => uptoBulk d + 1
  | .map entries => uptoBulkEntries entries + 1
  | .held _ => 1
def uptoBulkAll {H : Type} : List (DataW H) → Nat
  | [] => 0
  | d :: r => uptoBulk d + uptoBulkAll r
def uptoBulkEntries {H : Type} : List (Lit × DataW H) → Nat
  | [] => 0
  | x :: r => uptoBulkEntry x + uptoBulkEntries r
def uptoBulkEntry {H : Type} : Lit × DataW H → Nat
  | (.string bytes, d) => bytes.length + uptoBulk d + 1
  | (_, d) => uptoBulk d + 1
 end
def uptoSmall : (H : Type) → List (DataW H) → Bool := fun _ ds => decide (uptoBulkAll ds ≤ 1048576)
def OpenSpec.upto (s : _root_.Go.ChangeSpec) : _root_.Go.OpenSpec := { _root_.Go.OpenSpec.ofChange s with cond := some uptoSmall }

/-- 'garretlaw17.JournalRoom', WHERE WHAT IT READS IS OF BULK AT MOST 1048576: true; the input reads as it did. -/
def journalRoomUptoRow : OpenClaim := { program := "ytbbaoeidobdblaagreat", sum := "ca4737accce8c45542b574b3e970e3ee351952113eb0bb4ae2ed52866f0363aa", func := "garret/garretlaw17.JournalRoom", spec := "journalRoom", inPlace := ["internal/bytealg.MakeNoZero", "slices.overlaps[garret/api.Inode]", "slices.overlaps[int]", "internal/bytealg.Count", "internal/bytealg.IndexByte", "internal/bytealg.Index"], unfollowed := true, recurses := true, named := ["internal/bytealg.MaxLen"], plainKeys := false, apart := false, narrowed := true }
def JournalRoomUptoSaid : Prop := journalRoomUptoRow.holds Tryz.pinned (OpenSpec.upto journalRoomSpec)

/-- 'garretlaw17.JournalAgain', WHERE WHAT IT READS IS OF BULK AT MOST 1048576: true; the input reads as it did. -/
def journalAgainUptoRow : OpenClaim := { program := "ytbbaoeidobdblaagreat", sum := "ca4737accce8c45542b574b3e970e3ee351952113eb0bb4ae2ed52866f0363aa", func := "garret/garretlaw17.JournalAgain", spec := "journalAgain", inPlace := ["internal/bytealg.MakeNoZero", "slices.overlaps[garret/api.Inode]", "slices.overlaps[int]", "internal/bytealg.Count", "internal/bytealg.IndexByte", "internal/bytealg.Index"], unfollowed := true, recurses := true, named := ["internal/bytealg.MaxLen"], plainKeys := false, apart := false, narrowed := true }
def JournalAgainUptoSaid : Prop := journalAgainUptoRow.holds Tryz.pinned (OpenSpec.upto journalAgainSpec)

/-- 'garretlaw17.JournalFalls', WHERE WHAT IT READS IS OF BULK AT MOST 1048576: true; the input reads as it did. -/
def journalFallsUptoRow : OpenClaim := { program := "ytbbaoeidobdblaagreat", sum := "ca4737accce8c45542b574b3e970e3ee351952113eb0bb4ae2ed52866f0363aa", func := "garret/garretlaw17.JournalFalls", spec := "journalFalls", inPlace := ["internal/bytealg.MakeNoZero", "slices.overlaps[garret/api.Inode]", "slices.overlaps[int]", "internal/bytealg.Count", "internal/bytealg.IndexByte", "internal/bytealg.Index"], unfollowed := true, recurses := true, named := ["internal/bytealg.MaxLen"], plainKeys := false, apart := false, narrowed := true }
def JournalFallsUptoSaid : Prop := journalFallsUptoRow.holds Tryz.pinned (OpenSpec.upto journalFallsSpec)

/-- 'garretlaw17.JournalTurns', WHERE WHAT IT READS IS OF BULK AT MOST 1048576: true; the input reads as it did. -/
def journalTurnsUptoRow : OpenClaim := { program := "ytbbaoeidobdblaagreat", sum := "ca4737accce8c45542b574b3e970e3ee351952113eb0bb4ae2ed52866f0363aa", func := "garret/garretlaw17.JournalTurns", spec := "journalTurns", inPlace := ["internal/bytealg.MakeNoZero", "slices.overlaps[garret/api.Inode]", "slices.overlaps[int]", "internal/bytealg.Count", "internal/bytealg.IndexByte", "internal/bytealg.Index"], unfollowed := true, recurses := true, named := ["internal/bytealg.MaxLen"], plainKeys := false, apart := false, narrowed := true }
def JournalTurnsUptoSaid : Prop := journalTurnsUptoRow.holds Tryz.pinned (OpenSpec.upto journalTurnsSpec)

/-- 'garretlaw17.JournalPlays', WHERE WHAT IT READS IS OF BULK AT MOST 1048576: true; the input reads as it did. -/
def journalPlaysUptoRow : OpenClaim := { program := "ytbbaoeidobdblaagreat", sum := "ca4737accce8c45542b574b3e970e3ee351952113eb0bb4ae2ed52866f0363aa", func := "garret/garretlaw17.JournalPlays", spec := "journalPlays", inPlace := ["internal/bytealg.MakeNoZero", "slices.overlaps[garret/api.Inode]", "slices.overlaps[int]", "internal/bytealg.Count", "internal/bytealg.IndexByte", "internal/bytealg.Index"], unfollowed := true, recurses := true, named := ["internal/bytealg.MaxLen"], plainKeys := false, apart := false, narrowed := true }
def JournalPlaysUptoSaid : Prop := journalPlaysUptoRow.holds Tryz.pinned (OpenSpec.upto journalPlaysSpec)

/-- 'garretlaw17.JournalImages', WHERE WHAT IT READS IS OF BULK AT MOST 1048576: true; the input reads as it did. -/
def journalImagesUptoRow : OpenClaim := { program := "ytbbaoeidobdblaagreat", sum := "ca4737accce8c45542b574b3e970e3ee351952113eb0bb4ae2ed52866f0363aa", func := "garret/garretlaw17.JournalImages", spec := "journalImages", inPlace := ["internal/bytealg.MakeNoZero", "slices.overlaps[garret/api.Inode]", "slices.overlaps[int]", "internal/bytealg.Count", "internal/bytealg.IndexByte", "internal/bytealg.Index"], unfollowed := true, recurses := true, named := ["internal/bytealg.MaxLen"], plainKeys := false, apart := false, narrowed := true }
def JournalImagesUptoSaid : Prop := journalImagesUptoRow.holds Tryz.pinned (OpenSpec.upto journalImagesSpec)

/-- 'garretlaw17.JournalNew', WHERE WHAT IT READS IS OF BULK AT MOST 1048576: true; the input reads as it did. -/
def journalNewUptoRow : OpenClaim := { program := "ytbbaoeidobdblaagreat", sum := "ca4737accce8c45542b574b3e970e3ee351952113eb0bb4ae2ed52866f0363aa", func := "garret/garretlaw17.JournalNew", spec := "journalNew", inPlace := ["internal/bytealg.MakeNoZero", "slices.overlaps[garret/api.Inode]", "slices.overlaps[int]", "internal/bytealg.Count", "internal/bytealg.IndexByte", "internal/bytealg.Index"], unfollowed := true, recurses := true, named := ["internal/bytealg.MaxLen"], plainKeys := false, apart := false, narrowed := true }
def JournalNewUptoSaid : Prop := journalNewUptoRow.holds Tryz.pinned (OpenSpec.upto journalNewSpec)

/-- 'garretlaw27.SpaceTells', WHERE WHAT IT READS IS OF BULK AT MOST 1048576: true; the input reads as it did. -/
def spaceTellsUptoRow : OpenClaim := { program := "ytbbaoeidobdblaagreat", sum := "ca4737accce8c45542b574b3e970e3ee351952113eb0bb4ae2ed52866f0363aa", func := "garret/garretlaw27.SpaceTells", spec := "spaceTells", inPlace := ["slices.overlaps[garret/api.Inode]", "slices.overlaps[int]"], unfollowed := true, recurses := true, plainKeys := false, apart := false, narrowed := true }
def SpaceTellsUptoSaid : Prop := spaceTellsUptoRow.holds Tryz.pinned (OpenSpec.upto spaceTellsSpec)

end Rows
end Go.Proofs.YtbbaoeidobdblaaGreat
