/-
  No cell of these rows narrows 'for every input' (looked for: loops, veiled, ifaces, maps, wideKeys, modest, calm, conditions, laid).
  DERIVED. THE GIVEN ROWS OF THIS SEAT. 8 by the template 'for every input the law returns true; each argument reads behind the call as it read before'; 0 by the template 'total and deterministic' (their statements: YtnjgofgogeileaaTotals.lean).
  GIVEN WITH THE SEED: the statements are not yours to turn. If you find one false, say at which input.
  Laid BY PROGRAM, IN A SANDBOX (cutbox-rows.mjs): the forced cells as the released guide's own fill.sh prints them over the translation db4ef51089a8bcef… (all of the seat's roots in one cut). By AI agents, Wed Nov 11 2026. No macro, syntax, notation, axiom, sorry.
-/
import Derived.Test.YtnjgofgogeileaaChecked
import GoSem.Claim
import GoSem.ClaimJoined
import GoSem.ClaimMapViews
import Derived.JoinedTies
import Derived.KernelRfl
namespace Go.Proofs.Ytnjgofgogeileaa
/- THE CELL 'sum', in the pinned program and in every row, IS THE sha256 OF THE DUMP (.gsa) THAT YtnjgofgogeileaaProg.lean LOADS. Nothing in Lean hashes anything: it is a label: what it is worth is what the hold of that sum in a sandbox is worth. -/
noncomputable def Try.pinned : Pinned := { name := "ytnjgofgogeileaa", sum := "db4ef51089a8bcef631299d15671fd5f18142e287dd3003f2f94f609ddecf6fd", checked := Try.checked }
namespace Rows
def none {H : Type} : Left H := { results := [], args := [] }

/-- 'periwinklelaw1.DiffMatches': WHATEVER THE INPUT: true; the input reads as it did. -/
def diffMatchesSpec : ChangeSpec := { name := "diffMatches", fn := fun _ => fun
  | [d1, d2] => { results := [.lit (.bool true)], args := [d1, d2] }
  | _ => none }
def diffMatchesRow : OpenClaim := { program := "ytnjgofgogeileaa", sum := "db4ef51089a8bcef631299d15671fd5f18142e287dd3003f2f94f609ddecf6fd", func := "periwinkle/periwinklelaw1.DiffMatches", spec := "diffMatches", inPlace := ["internal/bytealg.IndexByteString", "internal/bytealg.IndexString"], unfollowed := true, recurses := true, named := ["internal/bytealg.MaxLen"], apart := false }
def DiffMatchesSaid : Prop := diffMatchesRow.holds Try.pinned (OpenSpec.ofChange diffMatchesSpec)

/-- ITS FALSE NEIGHBOUR: 'it returns false'. Refute it at one input. -/
def diffMatchesWrong : ChangeSpec := { name := "diffMatches", fn := fun _ => fun
  | [d1, d2] => { results := [.lit (.bool false)], args := [d1, d2] }
  | _ => none }
def DiffMatchesWrongFalsely : Prop := diffMatchesRow.holds Try.pinned (OpenSpec.ofChange diffMatchesWrong)

/-- 'periwinklelaw1.Text64Reads': WHATEVER THE INPUT: true; the input reads as it did. -/
def text64ReadsSpec : ChangeSpec := { name := "text64Reads", fn := fun _ => fun
  | [d] => { results := [.lit (.bool true)], args := [d] }
  | _ => none }
def text64ReadsRow : OpenClaim := { program := "ytnjgofgogeileaa", sum := "db4ef51089a8bcef631299d15671fd5f18142e287dd3003f2f94f609ddecf6fd", func := "periwinkle/periwinklelaw1.Text64Reads", spec := "text64Reads", inPlace := ["internal/bytealg.IndexByteString", "internal/bytealg.IndexString"], unfollowed := true, recurses := true, named := ["internal/bytealg.MaxLen"], apart := false }
def Text64ReadsSaid : Prop := text64ReadsRow.holds Try.pinned (OpenSpec.ofChange text64ReadsSpec)

/-- ITS FALSE NEIGHBOUR: 'it returns false'. Refute it at one input. -/
def text64ReadsWrong : ChangeSpec := { name := "text64Reads", fn := fun _ => fun
  | [d] => { results := [.lit (.bool false)], args := [d] }
  | _ => none }
def Text64ReadsWrongFalsely : Prop := text64ReadsRow.holds Try.pinned (OpenSpec.ofChange text64ReadsWrong)

/-- 'periwinklelaw1.MarkedMatches': WHATEVER THE INPUT: true; the input reads as it did. -/
def markedMatchesSpec : ChangeSpec := { name := "markedMatches", fn := fun _ => fun
  | [d] => { results := [.lit (.bool true)], args := [d] }
  | _ => none }
def markedMatchesRow : OpenClaim := { program := "ytnjgofgogeileaa", sum := "db4ef51089a8bcef631299d15671fd5f18142e287dd3003f2f94f609ddecf6fd", func := "periwinkle/periwinklelaw1.MarkedMatches", spec := "markedMatches", inPlace := ["internal/bytealg.IndexByteString", "internal/bytealg.IndexString", "internal/abi.NoEscape"], unfollowed := true, recurses := true, named := ["internal/bytealg.MaxLen"], apart := false }
def MarkedMatchesSaid : Prop := markedMatchesRow.holds Try.pinned (OpenSpec.ofChange markedMatchesSpec)

/-- ITS FALSE NEIGHBOUR: 'it returns false'. Refute it at one input. -/
def markedMatchesWrong : ChangeSpec := { name := "markedMatches", fn := fun _ => fun
  | [d] => { results := [.lit (.bool false)], args := [d] }
  | _ => none }
def MarkedMatchesWrongFalsely : Prop := markedMatchesRow.holds Try.pinned (OpenSpec.ofChange markedMatchesWrong)

/-- 'periwinklelaw1.Text64Matches': WHATEVER THE INPUT: true; the input reads as it did. -/
def text64MatchesSpec : ChangeSpec := { name := "text64Matches", fn := fun _ => fun
  | [d1, d2] => { results := [.lit (.bool true)], args := [d1, d2] }
  | _ => none }
def text64MatchesRow : OpenClaim := { program := "ytnjgofgogeileaa", sum := "db4ef51089a8bcef631299d15671fd5f18142e287dd3003f2f94f609ddecf6fd", func := "periwinkle/periwinklelaw1.Text64Matches", spec := "text64Matches", inPlace := ["internal/abi.NoEscape", "internal/bytealg.IndexByteString", "internal/bytealg.IndexString"], unfollowed := true, recurses := true, named := ["internal/bytealg.MaxLen"], apart := false }
def Text64MatchesSaid : Prop := text64MatchesRow.holds Try.pinned (OpenSpec.ofChange text64MatchesSpec)

/-- ITS FALSE NEIGHBOUR: 'it returns false'. Refute it at one input. -/
def text64MatchesWrong : ChangeSpec := { name := "text64Matches", fn := fun _ => fun
  | [d1, d2] => { results := [.lit (.bool false)], args := [d1, d2] }
  | _ => none }
def Text64MatchesWrongFalsely : Prop := text64MatchesRow.holds Try.pinned (OpenSpec.ofChange text64MatchesWrong)

/-- 'periwinklelaw1.DiffApplies': WHATEVER THE INPUT: true; the input reads as it did. -/
def diffAppliesSpec : ChangeSpec := { name := "diffApplies", fn := fun _ => fun
  | [d1, d2] => { results := [.lit (.bool true)], args := [d1, d2] }
  | _ => none }
def diffAppliesRow : OpenClaim := { program := "ytnjgofgogeileaa", sum := "db4ef51089a8bcef631299d15671fd5f18142e287dd3003f2f94f609ddecf6fd", func := "periwinkle/periwinklelaw1.DiffApplies", spec := "diffApplies", inPlace := ["internal/bytealg.IndexByteString", "internal/bytealg.IndexString"], unfollowed := true, recurses := true, named := ["internal/bytealg.MaxLen"], apart := false }
def DiffAppliesSaid : Prop := diffAppliesRow.holds Try.pinned (OpenSpec.ofChange diffAppliesSpec)

/-- ITS FALSE NEIGHBOUR: 'it returns false'. Refute it at one input. -/
def diffAppliesWrong : ChangeSpec := { name := "diffApplies", fn := fun _ => fun
  | [d1, d2] => { results := [.lit (.bool false)], args := [d1, d2] }
  | _ => none }
def DiffAppliesWrongFalsely : Prop := diffAppliesRow.holds Try.pinned (OpenSpec.ofChange diffAppliesWrong)

/-- 'periwinklelaw1.MergeMatches': WHATEVER THE INPUT: true; the input reads as it did. -/
def mergeMatchesSpec : ChangeSpec := { name := "mergeMatches", fn := fun _ => fun
  | [d1, d2, d3] => { results := [.lit (.bool true)], args := [d1, d2, d3] }
  | _ => none }
def mergeMatchesRow : OpenClaim := { program := "ytnjgofgogeileaa", sum := "db4ef51089a8bcef631299d15671fd5f18142e287dd3003f2f94f609ddecf6fd", func := "periwinkle/periwinklelaw1.MergeMatches", spec := "mergeMatches", inPlace := ["internal/bytealg.IndexByteString", "internal/bytealg.IndexString"], unfollowed := true, recurses := true, named := ["internal/bytealg.MaxLen"], apart := false }
def MergeMatchesSaid : Prop := mergeMatchesRow.holds Try.pinned (OpenSpec.ofChange mergeMatchesSpec)

/-- ITS FALSE NEIGHBOUR: 'it returns false'. Refute it at one input. -/
def mergeMatchesWrong : ChangeSpec := { name := "mergeMatches", fn := fun _ => fun
  | [d1, d2, d3] => { results := [.lit (.bool false)], args := [d1, d2, d3] }
  | _ => none }
def MergeMatchesWrongFalsely : Prop := mergeMatchesRow.holds Try.pinned (OpenSpec.ofChange mergeMatchesWrong)

/-- 'periwinklelaw1.CodesMatch': WHATEVER THE INPUT: true; the input reads as it did. -/
def codesMatchSpec : ChangeSpec := { name := "codesMatch", fn := fun _ => fun
  | [d] => { results := [.lit (.bool true)], args := [d] }
  | _ => none }
def codesMatchRow : OpenClaim := { program := "ytnjgofgogeileaa", sum := "db4ef51089a8bcef631299d15671fd5f18142e287dd3003f2f94f609ddecf6fd", func := "periwinkle/periwinklelaw1.CodesMatch", spec := "codesMatch", inPlace := ["internal/bytealg.IndexByteString", "internal/bytealg.IndexString"], unfollowed := true, recurses := true, named := ["internal/bytealg.MaxLen"], apart := false }
def CodesMatchSaid : Prop := codesMatchRow.holds Try.pinned (OpenSpec.ofChange codesMatchSpec)

/-- ITS FALSE NEIGHBOUR: 'it returns false'. Refute it at one input. -/
def codesMatchWrong : ChangeSpec := { name := "codesMatch", fn := fun _ => fun
  | [d] => { results := [.lit (.bool false)], args := [d] }
  | _ => none }
def CodesMatchWrongFalsely : Prop := codesMatchRow.holds Try.pinned (OpenSpec.ofChange codesMatchWrong)

/-- 'periwinklelaw1.PatchMatches': WHATEVER THE INPUT: true; the input reads as it did. -/
def patchMatchesSpec : ChangeSpec := { name := "patchMatches", fn := fun _ => fun
  | [d1, d2, d3] => { results := [.lit (.bool true)], args := [d1, d2, d3] }
  | _ => none }
def patchMatchesRow : OpenClaim := { program := "ytnjgofgogeileaa", sum := "db4ef51089a8bcef631299d15671fd5f18142e287dd3003f2f94f609ddecf6fd", func := "periwinkle/periwinklelaw1.PatchMatches", spec := "patchMatches", inPlace := ["internal/bytealg.IndexByteString", "internal/bytealg.IndexString", "slices.overlaps[string]"], unfollowed := true, recurses := true, named := ["internal/bytealg.MaxLen"], apart := false }
def PatchMatchesSaid : Prop := patchMatchesRow.holds Try.pinned (OpenSpec.ofChange patchMatchesSpec)

/-- ITS FALSE NEIGHBOUR: 'it returns false'. Refute it at one input. -/
def patchMatchesWrong : ChangeSpec := { name := "patchMatches", fn := fun _ => fun
  | [d1, d2, d3] => { results := [.lit (.bool false)], args := [d1, d2, d3] }
  | _ => none }
def PatchMatchesWrongFalsely : Prop := patchMatchesRow.holds Try.pinned (OpenSpec.ofChange patchMatchesWrong)

/- THE SECOND FORM. 'bulk': how many values and letters a reading holds, each counted each time it is reached (what is shared counts as often as it is met; a slice's spare places count too). A statement '..UptoSaid' is the law's where the arguments, and the package variables that the reading takes, are together of bulk at most 1048576: NARROWER than '..Said'. Prove '..Said' where nothing that the law and all that it calls make is longer than what came in: it says more and counts as full. Else prove '..UptoSaid'. A law counts once. -/
mutual
def uptoBulk {H : Type} : DataW H → Nat
  | .lit (.string bytes) => bytes.length + 1
  | .lit _ => 1
  | .nil => 1
  | .ptr d => uptoBulk d + 1
  | .slice elems spare => uptoBulkAll elems + uptoBulkAll spare + 1
  | .agg parts => uptoBulkAll parts + 1
  | .iface _ d => uptoBulk d + 1
  | .map entries => uptoBulkEntries entries + 1
  | .held _ => 1
def uptoBulkAll {H : Type} : List (DataW H) → Nat
  | [] => 0
  | d :: r => uptoBulk d + uptoBulkAll r
def uptoBulkEntries {H : Type} : List (Lit × DataW H) → Nat
  | [] => 0
  | x :: r => uptoBulkEntry x + uptoBulkEntries r
def uptoBulkEntry {H : Type} : Lit × DataW H → Nat
  | (.string bytes, d) => bytes.length + uptoBulk d + 1
  | (_, d) => uptoBulk d + 1
 end
def uptoSmall : (H : Type) → List (DataW H) → Bool := fun _ ds => decide (uptoBulkAll ds ≤ 1048576)
def OpenSpec.upto (s : _root_.Go.ChangeSpec) : _root_.Go.OpenSpec := { _root_.Go.OpenSpec.ofChange s with cond := some uptoSmall }

/-- 'periwinklelaw1.DiffMatches', WHERE WHAT IT READS IS OF BULK AT MOST 1048576: true; the input reads as it did. -/
def diffMatchesUptoRow : OpenClaim := { program := "ytnjgofgogeileaa", sum := "db4ef51089a8bcef631299d15671fd5f18142e287dd3003f2f94f609ddecf6fd", func := "periwinkle/periwinklelaw1.DiffMatches", spec := "diffMatches", inPlace := ["internal/bytealg.IndexByteString", "internal/bytealg.IndexString"], unfollowed := true, recurses := true, named := ["internal/bytealg.MaxLen"], apart := false, narrowed := true }
def DiffMatchesUptoSaid : Prop := diffMatchesUptoRow.holds Try.pinned (OpenSpec.upto diffMatchesSpec)

/-- 'periwinklelaw1.Text64Reads', WHERE WHAT IT READS IS OF BULK AT MOST 1048576: true; the input reads as it did. -/
def text64ReadsUptoRow : OpenClaim := { program := "ytnjgofgogeileaa", sum := "db4ef51089a8bcef631299d15671fd5f18142e287dd3003f2f94f609ddecf6fd", func := "periwinkle/periwinklelaw1.Text64Reads", spec := "text64Reads", inPlace := ["internal/bytealg.IndexByteString", "internal/bytealg.IndexString"], unfollowed := true, recurses := true, named := ["internal/bytealg.MaxLen"], apart := false, narrowed := true }
def Text64ReadsUptoSaid : Prop := text64ReadsUptoRow.holds Try.pinned (OpenSpec.upto text64ReadsSpec)

/-- 'periwinklelaw1.MarkedMatches', WHERE WHAT IT READS IS OF BULK AT MOST 1048576: true; the input reads as it did. -/
def markedMatchesUptoRow : OpenClaim := { program := "ytnjgofgogeileaa", sum := "db4ef51089a8bcef631299d15671fd5f18142e287dd3003f2f94f609ddecf6fd", func := "periwinkle/periwinklelaw1.MarkedMatches", spec := "markedMatches", inPlace := ["internal/bytealg.IndexByteString", "internal/bytealg.IndexString", "internal/abi.NoEscape"], unfollowed := true, recurses := true, named := ["internal/bytealg.MaxLen"], apart := false, narrowed := true }
def MarkedMatchesUptoSaid : Prop := markedMatchesUptoRow.holds Try.pinned (OpenSpec.upto markedMatchesSpec)

/-- 'periwinklelaw1.Text64Matches', WHERE WHAT IT READS IS OF BULK AT MOST 1048576: true; the input reads as it did. -/
def text64MatchesUptoRow : OpenClaim := { program := "ytnjgofgogeileaa", sum := "db4ef51089a8bcef631299d15671fd5f18142e287dd3003f2f94f609ddecf6fd", func := "periwinkle/periwinklelaw1.Text64Matches", spec := "text64Matches", inPlace := ["internal/abi.NoEscape", "internal/bytealg.IndexByteString", "internal/bytealg.IndexString"], unfollowed := true, recurses := true, named := ["internal/bytealg.MaxLen"], apart := false, narrowed := true }
def Text64MatchesUptoSaid : Prop := text64MatchesUptoRow.holds Try.pinned (OpenSpec.upto text64MatchesSpec)

/-- 'periwinklelaw1.DiffApplies', WHERE WHAT IT READS IS OF BULK AT MOST 1048576: true; the input reads as it did. -/
def diffAppliesUptoRow : OpenClaim := { program := "ytnjgofgogeileaa", sum := "db4ef51089a8bcef631299d15671fd5f18142e287dd3003f2f94f609ddecf6fd", func := "periwinkle/periwinklelaw1.DiffApplies", spec := "diffApplies", inPlace := ["internal/bytealg.IndexByteString", "internal/bytealg.IndexString"], unfollowed := true, recurses := true, named := ["internal/bytealg.MaxLen"], apart := false, narrowed := true }
def DiffAppliesUptoSaid : Prop := diffAppliesUptoRow.holds Try.pinned (OpenSpec.upto diffAppliesSpec)

/-- 'periwinklelaw1.MergeMatches', WHERE WHAT IT READS IS OF BULK AT MOST 1048576: true; the input reads as it did. -/
def mergeMatchesUptoRow : OpenClaim := { program := "ytnjgofgogeileaa", sum := "db4ef51089a8bcef631299d15671fd5f18142e287dd3003f2f94f609ddecf6fd", func := "periwinkle/periwinklelaw1.MergeMatches", spec := "mergeMatches", inPlace := ["internal/bytealg.IndexByteString", "internal/bytealg.IndexString"], unfollowed := true, recurses := true, named := ["internal/bytealg.MaxLen"], apart := false, narrowed := true }
def MergeMatchesUptoSaid : Prop := mergeMatchesUptoRow.holds Try.pinned (OpenSpec.upto mergeMatchesSpec)

/-- 'periwinklelaw1.CodesMatch', WHERE WHAT IT READS IS OF BULK AT MOST 1048576: true; the input reads as it did. -/
def codesMatchUptoRow : OpenClaim := { program := "ytnjgofgogeileaa", sum := "db4ef51089a8bcef631299d15671fd5f18142e287dd3003f2f94f609ddecf6fd", func := "periwinkle/periwinklelaw1.CodesMatch", spec := "codesMatch", inPlace := ["internal/bytealg.IndexByteString", "internal/bytealg.IndexString"], unfollowed := true, recurses := true, named := ["internal/bytealg.MaxLen"], apart := false, narrowed := true }
def CodesMatchUptoSaid : Prop := codesMatchUptoRow.holds Try.pinned (OpenSpec.upto codesMatchSpec)

/-- 'periwinklelaw1.PatchMatches', WHERE WHAT IT READS IS OF BULK AT MOST 1048576: true; the input reads as it did. -/
def patchMatchesUptoRow : OpenClaim := { program := "ytnjgofgogeileaa", sum := "db4ef51089a8bcef631299d15671fd5f18142e287dd3003f2f94f609ddecf6fd", func := "periwinkle/periwinklelaw1.PatchMatches", spec := "patchMatches", inPlace := ["internal/bytealg.IndexByteString", "internal/bytealg.IndexString", "slices.overlaps[string]"], unfollowed := true, recurses := true, named := ["internal/bytealg.MaxLen"], apart := false, narrowed := true }
def PatchMatchesUptoSaid : Prop := patchMatchesUptoRow.holds Try.pinned (OpenSpec.upto patchMatchesSpec)

end Rows
end Go.Proofs.Ytnjgofgogeileaa
