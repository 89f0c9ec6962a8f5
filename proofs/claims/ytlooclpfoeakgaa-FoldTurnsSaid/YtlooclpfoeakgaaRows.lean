/-
  No cell of these rows narrows 'for every input' (looked for: loops, veiled, ifaces, maps, wideKeys, modest, calm, conditions, laid).
  DERIVED. THE GIVEN ROWS OF THIS SEAT. 10 by the template 'for every input the law returns true; each argument reads behind the call as it read before'; 0 by the template 'total and deterministic' (their statements: YtlooclpfoeakgaaTotals.lean).
  GIVEN WITH THE SEED: the statements are not yours to turn. If you find one false, say at which input.
  Laid BY PROGRAM, IN A SANDBOX (cutbox-rows.mjs): the forced cells as the released guide's own fill.sh prints them over the translation 0c45ebacebf2066b… (all of the seat's roots in one cut). By AI agents, Wed Nov 11 2026. No macro, syntax, notation, axiom, sorry.
-/
import Derived.Test.YtlooclpfoeakgaaChecked
import GoSem.Claim
import GoSem.ClaimJoined
import GoSem.ClaimMapViews
import Derived.JoinedTies
import Derived.KernelRfl
namespace Go.Proofs.Ytlooclpfoeakgaa
/- THE CELL 'sum', in the pinned program and in every row, IS THE sha256 OF THE DUMP (.gsa) THAT YtlooclpfoeakgaaProg.lean LOADS. Nothing in Lean hashes anything: it is a label: what it is worth is what the hold of that sum in a sandbox is worth. -/
noncomputable def Try.pinned : Pinned := { name := "ytlooclpfoeakgaa", sum := "0c45ebacebf2066be122ccb5a8bd3e0325c98edda8aa2a1a0eb311bcb0a1ddd9", checked := Try.checked }
namespace Rows
def none {H : Type} : Left H := { results := [], args := [] }

/-- 'rabbetlaw05.FoldFolds': WHATEVER THE INPUT: true; the input reads as it did. -/
def foldFoldsSpec : ChangeSpec := { name := "foldFolds", fn := fun _ => fun
  | [d1, d2] => { results := [.lit (.bool true)], args := [d1, d2] }
  | _ => none }
def foldFoldsRow : OpenClaim := { program := "ytlooclpfoeakgaa", sum := "0c45ebacebf2066be122ccb5a8bd3e0325c98edda8aa2a1a0eb311bcb0a1ddd9", func := "rabbet/rabbetlaw05.FoldFolds", spec := "foldFolds", unfollowed := true, recurses := true, plainKeys := false, apart := false }
def FoldFoldsSaid : Prop := foldFoldsRow.holds Try.pinned (OpenSpec.ofChange foldFoldsSpec)

/-- ITS FALSE NEIGHBOUR: 'it returns false'. Refute it at one input. -/
def foldFoldsWrong : ChangeSpec := { name := "foldFolds", fn := fun _ => fun
  | [d1, d2] => { results := [.lit (.bool false)], args := [d1, d2] }
  | _ => none }
def FoldFoldsWrongFalsely : Prop := foldFoldsRow.holds Try.pinned (OpenSpec.ofChange foldFoldsWrong)

/-- 'rabbetlaw05.FoldGroups': WHATEVER THE INPUT: true; the input reads as it did. -/
def foldGroupsSpec : ChangeSpec := { name := "foldGroups", fn := fun _ => fun
  | [d1, d2, d3] => { results := [.lit (.bool true)], args := [d1, d2, d3] }
  | _ => none }
def foldGroupsRow : OpenClaim := { program := "ytlooclpfoeakgaa", sum := "0c45ebacebf2066be122ccb5a8bd3e0325c98edda8aa2a1a0eb311bcb0a1ddd9", func := "rabbet/rabbetlaw05.FoldGroups", spec := "foldGroups", unfollowed := true, recurses := true, plainKeys := false, apart := false }
def FoldGroupsSaid : Prop := foldGroupsRow.holds Try.pinned (OpenSpec.ofChange foldGroupsSpec)

/-- ITS FALSE NEIGHBOUR: 'it returns false'. Refute it at one input. -/
def foldGroupsWrong : ChangeSpec := { name := "foldGroups", fn := fun _ => fun
  | [d1, d2, d3] => { results := [.lit (.bool false)], args := [d1, d2, d3] }
  | _ => none }
def FoldGroupsWrongFalsely : Prop := foldGroupsRow.holds Try.pinned (OpenSpec.ofChange foldGroupsWrong)

/-- 'rabbetlaw05.FoldFree': WHATEVER THE INPUT: true; the input reads as it did. -/
def foldFreeSpec : ChangeSpec := { name := "foldFree", fn := fun _ => fun
  | [d1, d2, d3] => { results := [.lit (.bool true)], args := [d1, d2, d3] }
  | _ => none }
def foldFreeRow : OpenClaim := { program := "ytlooclpfoeakgaa", sum := "0c45ebacebf2066be122ccb5a8bd3e0325c98edda8aa2a1a0eb311bcb0a1ddd9", func := "rabbet/rabbetlaw05.FoldFree", spec := "foldFree", unfollowed := true, recurses := true, plainKeys := false, apart := false }
def FoldFreeSaid : Prop := foldFreeRow.holds Try.pinned (OpenSpec.ofChange foldFreeSpec)

/-- ITS FALSE NEIGHBOUR: 'it returns false'. Refute it at one input. -/
def foldFreeWrong : ChangeSpec := { name := "foldFree", fn := fun _ => fun
  | [d1, d2, d3] => { results := [.lit (.bool false)], args := [d1, d2, d3] }
  | _ => none }
def FoldFreeWrongFalsely : Prop := foldFreeRow.holds Try.pinned (OpenSpec.ofChange foldFreeWrong)

/-- 'rabbetlaw05.FoldLarge': WHATEVER THE INPUT: true; the input reads as it did. -/
def foldLargeSpec : ChangeSpec := { name := "foldLarge", fn := fun _ => fun
  | [d1, d2] => { results := [.lit (.bool true)], args := [d1, d2] }
  | _ => none }
def foldLargeRow : OpenClaim := { program := "ytlooclpfoeakgaa", sum := "0c45ebacebf2066be122ccb5a8bd3e0325c98edda8aa2a1a0eb311bcb0a1ddd9", func := "rabbet/rabbetlaw05.FoldLarge", spec := "foldLarge", unfollowed := true, recurses := true, plainKeys := false, apart := false }
def FoldLargeSaid : Prop := foldLargeRow.holds Try.pinned (OpenSpec.ofChange foldLargeSpec)

/-- ITS FALSE NEIGHBOUR: 'it returns false'. Refute it at one input. -/
def foldLargeWrong : ChangeSpec := { name := "foldLarge", fn := fun _ => fun
  | [d1, d2] => { results := [.lit (.bool false)], args := [d1, d2] }
  | _ => none }
def FoldLargeWrongFalsely : Prop := foldLargeRow.holds Try.pinned (OpenSpec.ofChange foldLargeWrong)

/-- 'rabbetlaw05.FoldMeets': WHATEVER THE INPUT: true; the input reads as it did. -/
def foldMeetsSpec : ChangeSpec := { name := "foldMeets", fn := fun _ => fun
  | [d1, d2, d3] => { results := [.lit (.bool true)], args := [d1, d2, d3] }
  | _ => none }
def foldMeetsRow : OpenClaim := { program := "ytlooclpfoeakgaa", sum := "0c45ebacebf2066be122ccb5a8bd3e0325c98edda8aa2a1a0eb311bcb0a1ddd9", func := "rabbet/rabbetlaw05.FoldMeets", spec := "foldMeets", unfollowed := true, recurses := true, plainKeys := false, apart := false }
def FoldMeetsSaid : Prop := foldMeetsRow.holds Try.pinned (OpenSpec.ofChange foldMeetsSpec)

/-- ITS FALSE NEIGHBOUR: 'it returns false'. Refute it at one input. -/
def foldMeetsWrong : ChangeSpec := { name := "foldMeets", fn := fun _ => fun
  | [d1, d2, d3] => { results := [.lit (.bool false)], args := [d1, d2, d3] }
  | _ => none }
def FoldMeetsWrongFalsely : Prop := foldMeetsRow.holds Try.pinned (OpenSpec.ofChange foldMeetsWrong)

/-- 'rabbetlaw05.FoldTurns': WHATEVER THE INPUT: true; the input reads as it did. -/
def foldTurnsSpec : ChangeSpec := { name := "foldTurns", fn := fun _ => fun
  | [d1, d2, d3] => { results := [.lit (.bool true)], args := [d1, d2, d3] }
  | _ => none }
def foldTurnsRow : OpenClaim := { program := "ytlooclpfoeakgaa", sum := "0c45ebacebf2066be122ccb5a8bd3e0325c98edda8aa2a1a0eb311bcb0a1ddd9", func := "rabbet/rabbetlaw05.FoldTurns", spec := "foldTurns", unfollowed := true, recurses := true, plainKeys := false, apart := false }
def FoldTurnsSaid : Prop := foldTurnsRow.holds Try.pinned (OpenSpec.ofChange foldTurnsSpec)

/-- ITS FALSE NEIGHBOUR: 'it returns false'. Refute it at one input. -/
def foldTurnsWrong : ChangeSpec := { name := "foldTurns", fn := fun _ => fun
  | [d1, d2, d3] => { results := [.lit (.bool false)], args := [d1, d2, d3] }
  | _ => none }
def FoldTurnsWrongFalsely : Prop := foldTurnsRow.holds Try.pinned (OpenSpec.ofChange foldTurnsWrong)

/-- 'rabbetlaw05.FoldHowson': WHATEVER THE INPUT: true; the input reads as it did. -/
def foldHowsonSpec : ChangeSpec := { name := "foldHowson", fn := fun _ => fun
  | [d1, d2, d3] => { results := [.lit (.bool true)], args := [d1, d2, d3] }
  | _ => none }
def foldHowsonRow : OpenClaim := { program := "ytlooclpfoeakgaa", sum := "0c45ebacebf2066be122ccb5a8bd3e0325c98edda8aa2a1a0eb311bcb0a1ddd9", func := "rabbet/rabbetlaw05.FoldHowson", spec := "foldHowson", unfollowed := true, recurses := true, plainKeys := false, apart := false }
def FoldHowsonSaid : Prop := foldHowsonRow.holds Try.pinned (OpenSpec.ofChange foldHowsonSpec)

/-- ITS FALSE NEIGHBOUR: 'it returns false'. Refute it at one input. -/
def foldHowsonWrong : ChangeSpec := { name := "foldHowson", fn := fun _ => fun
  | [d1, d2, d3] => { results := [.lit (.bool false)], args := [d1, d2, d3] }
  | _ => none }
def FoldHowsonWrongFalsely : Prop := foldHowsonRow.holds Try.pinned (OpenSpec.ofChange foldHowsonWrong)

/-- 'rabbetlaw05.FoldChecks': WHATEVER THE INPUT: true; the input reads as it did. -/
def foldChecksSpec : ChangeSpec := { name := "foldChecks", fn := fun _ => fun
  | [d1, d2] => { results := [.lit (.bool true)], args := [d1, d2] }
  | _ => none }
def foldChecksRow : OpenClaim := { program := "ytlooclpfoeakgaa", sum := "0c45ebacebf2066be122ccb5a8bd3e0325c98edda8aa2a1a0eb311bcb0a1ddd9", func := "rabbet/rabbetlaw05.FoldChecks", spec := "foldChecks", unfollowed := true, recurses := true, plainKeys := false, apart := false }
def FoldChecksSaid : Prop := foldChecksRow.holds Try.pinned (OpenSpec.ofChange foldChecksSpec)

/-- ITS FALSE NEIGHBOUR: 'it returns false'. Refute it at one input. -/
def foldChecksWrong : ChangeSpec := { name := "foldChecks", fn := fun _ => fun
  | [d1, d2] => { results := [.lit (.bool false)], args := [d1, d2] }
  | _ => none }
def FoldChecksWrongFalsely : Prop := foldChecksRow.holds Try.pinned (OpenSpec.ofChange foldChecksWrong)

/-- 'rabbetlaw05.FoldAll': WHATEVER THE INPUT: true; the input reads as it did. -/
def foldAllSpec : ChangeSpec := { name := "foldAll", fn := fun _ => fun
  | [d1, d2] => { results := [.lit (.bool true)], args := [d1, d2] }
  | _ => none }
def foldAllRow : OpenClaim := { program := "ytlooclpfoeakgaa", sum := "0c45ebacebf2066be122ccb5a8bd3e0325c98edda8aa2a1a0eb311bcb0a1ddd9", func := "rabbet/rabbetlaw05.FoldAll", spec := "foldAll", unfollowed := true, recurses := true, plainKeys := false, apart := false }
def FoldAllSaid : Prop := foldAllRow.holds Try.pinned (OpenSpec.ofChange foldAllSpec)

/-- ITS FALSE NEIGHBOUR: 'it returns false'. Refute it at one input. -/
def foldAllWrong : ChangeSpec := { name := "foldAll", fn := fun _ => fun
  | [d1, d2] => { results := [.lit (.bool false)], args := [d1, d2] }
  | _ => none }
def FoldAllWrongFalsely : Prop := foldAllRow.holds Try.pinned (OpenSpec.ofChange foldAllWrong)

/-- 'rabbetlaw05.FoldCosets': WHATEVER THE INPUT: true; the input reads as it did. -/
def foldCosetsSpec : ChangeSpec := { name := "foldCosets", fn := fun _ => fun
  | [d1, d2, d3] => { results := [.lit (.bool true)], args := [d1, d2, d3] }
  | _ => none }
def foldCosetsRow : OpenClaim := { program := "ytlooclpfoeakgaa", sum := "0c45ebacebf2066be122ccb5a8bd3e0325c98edda8aa2a1a0eb311bcb0a1ddd9", func := "rabbet/rabbetlaw05.FoldCosets", spec := "foldCosets", unfollowed := true, recurses := true, plainKeys := false, apart := false }
def FoldCosetsSaid : Prop := foldCosetsRow.holds Try.pinned (OpenSpec.ofChange foldCosetsSpec)

/-- ITS FALSE NEIGHBOUR: 'it returns false'. Refute it at one input. -/
def foldCosetsWrong : ChangeSpec := { name := "foldCosets", fn := fun _ => fun
  | [d1, d2, d3] => { results := [.lit (.bool false)], args := [d1, d2, d3] }
  | _ => none }
def FoldCosetsWrongFalsely : Prop := foldCosetsRow.holds Try.pinned (OpenSpec.ofChange foldCosetsWrong)

/- THE SECOND FORM. 'bulk': how many values and letters a reading holds, each counted each time it is reached (what is shared counts as often as it is met; a slice's spare places count too). A statement '..UptoSaid' is the law's where the arguments, and the package variables that the reading takes, are together of bulk at most 1048576: NARROWER than '..Said'. Prove '..Said' where nothing that the law and all that it calls make is longer than what came in: it says more and counts as full. Else prove '..UptoSaid'. A law counts once. -/
mutual
def uptoBulk {H : Type} : DataW H → Nat
  | .lit (.string bytes) => bytes.length + 1
  | .lit _ => 1
  | .nil => 1
  | .ptr d => uptoBulk d + 1
  | .slice elems spare => uptoBulkAll elems + uptoBulkAll spare + 1
  | .agg parts => uptoBulkAll parts + 1
  | .iface _ d => uptoBulk d + 1
  | .map entries => uptoBulkEntries entries + 1
  | .held _ => 1
def uptoBulkAll {H : Type} : List (DataW H) → Nat
  | [] => 0
  | d :: r => uptoBulk d + uptoBulkAll r
def uptoBulkEntries {H : Type} : List (Lit × DataW H) → Nat
  | [] => 0
  | x :: r => uptoBulkEntry x + uptoBulkEntries r
def uptoBulkEntry {H : Type} : Lit × DataW H → Nat
  | (.string bytes, d) => bytes.length + uptoBulk d + 1
  | (_, d) => uptoBulk d + 1
 end
def uptoSmall : (H : Type) → List (DataW H) → Bool := fun _ ds => decide (uptoBulkAll ds ≤ 1048576)
def OpenSpec.upto (s : _root_.Go.ChangeSpec) : _root_.Go.OpenSpec := { _root_.Go.OpenSpec.ofChange s with cond := some uptoSmall }

/-- 'rabbetlaw05.FoldFolds', WHERE WHAT IT READS IS OF BULK AT MOST 1048576: true; the input reads as it did. -/
def foldFoldsUptoRow : OpenClaim := { program := "ytlooclpfoeakgaa", sum := "0c45ebacebf2066be122ccb5a8bd3e0325c98edda8aa2a1a0eb311bcb0a1ddd9", func := "rabbet/rabbetlaw05.FoldFolds", spec := "foldFolds", unfollowed := true, recurses := true, plainKeys := false, apart := false, narrowed := true }
def FoldFoldsUptoSaid : Prop := foldFoldsUptoRow.holds Try.pinned (OpenSpec.upto foldFoldsSpec)

/-- 'rabbetlaw05.FoldGroups', WHERE WHAT IT READS IS OF BULK AT MOST 1048576: true; the input reads as it did. -/
def foldGroupsUptoRow : OpenClaim := { program := "ytlooclpfoeakgaa", sum := "0c45ebacebf2066be122ccb5a8bd3e0325c98edda8aa2a1a0eb311bcb0a1ddd9", func := "rabbet/rabbetlaw05.FoldGroups", spec := "foldGroups", unfollowed := true, recurses := true, plainKeys := false, apart := false, narrowed := true }
def FoldGroupsUptoSaid : Prop := foldGroupsUptoRow.holds Try.pinned (OpenSpec.upto foldGroupsSpec)

/-- 'rabbetlaw05.FoldFree', WHERE WHAT IT READS IS OF BULK AT MOST 1048576: true; the input reads as it did. -/
def foldFreeUptoRow : OpenClaim := { program := "ytlooclpfoeakgaa", sum := "0c45ebacebf2066be122ccb5a8bd3e0325c98edda8aa2a1a0eb311bcb0a1ddd9", func := "rabbet/rabbetlaw05.FoldFree", spec := "foldFree", unfollowed := true, recurses := true, plainKeys := false, apart := false, narrowed := true }
def FoldFreeUptoSaid : Prop := foldFreeUptoRow.holds Try.pinned (OpenSpec.upto foldFreeSpec)

/-- 'rabbetlaw05.FoldLarge', WHERE WHAT IT READS IS OF BULK AT MOST 1048576: true; the input reads as it did. -/
def foldLargeUptoRow : OpenClaim := { program := "ytlooclpfoeakgaa", sum := "0c45ebacebf2066be122ccb5a8bd3e0325c98edda8aa2a1a0eb311bcb0a1ddd9", func := "rabbet/rabbetlaw05.FoldLarge", spec := "foldLarge", unfollowed := true, recurses := true, plainKeys := false, apart := false, narrowed := true }
def FoldLargeUptoSaid : Prop := foldLargeUptoRow.holds Try.pinned (OpenSpec.upto foldLargeSpec)

/-- 'rabbetlaw05.FoldMeets', WHERE WHAT IT READS IS OF BULK AT MOST 1048576: true; the input reads as it did. -/
def foldMeetsUptoRow : OpenClaim := { program := "ytlooclpfoeakgaa", sum := "0c45ebacebf2066be122ccb5a8bd3e0325c98edda8aa2a1a0eb311bcb0a1ddd9", func := "rabbet/rabbetlaw05.FoldMeets", spec := "foldMeets", unfollowed := true, recurses := true, plainKeys := false, apart := false, narrowed := true }
def FoldMeetsUptoSaid : Prop := foldMeetsUptoRow.holds Try.pinned (OpenSpec.upto foldMeetsSpec)

/-- 'rabbetlaw05.FoldTurns', WHERE WHAT IT READS IS OF BULK AT MOST 1048576: true; the input reads as it did. -/
def foldTurnsUptoRow : OpenClaim := { program := "ytlooclpfoeakgaa", sum := "0c45ebacebf2066be122ccb5a8bd3e0325c98edda8aa2a1a0eb311bcb0a1ddd9", func := "rabbet/rabbetlaw05.FoldTurns", spec := "foldTurns", unfollowed := true, recurses := true, plainKeys := false, apart := false, narrowed := true }
def FoldTurnsUptoSaid : Prop := foldTurnsUptoRow.holds Try.pinned (OpenSpec.upto foldTurnsSpec)

/-- 'rabbetlaw05.FoldHowson', WHERE WHAT IT READS IS OF BULK AT MOST 1048576: true; the input reads as it did. -/
def foldHowsonUptoRow : OpenClaim := { program := "ytlooclpfoeakgaa", sum := "0c45ebacebf2066be122ccb5a8bd3e0325c98edda8aa2a1a0eb311bcb0a1ddd9", func := "rabbet/rabbetlaw05.FoldHowson", spec := "foldHowson", unfollowed := true, recurses := true, plainKeys := false, apart := false, narrowed := true }
def FoldHowsonUptoSaid : Prop := foldHowsonUptoRow.holds Try.pinned (OpenSpec.upto foldHowsonSpec)

/-- 'rabbetlaw05.FoldChecks', WHERE WHAT IT READS IS OF BULK AT MOST 1048576: true; the input reads as it did. -/
def foldChecksUptoRow : OpenClaim := { program := "ytlooclpfoeakgaa", sum := "0c45ebacebf2066be122ccb5a8bd3e0325c98edda8aa2a1a0eb311bcb0a1ddd9", func := "rabbet/rabbetlaw05.FoldChecks", spec := "foldChecks", unfollowed := true, recurses := true, plainKeys := false, apart := false, narrowed := true }
def FoldChecksUptoSaid : Prop := foldChecksUptoRow.holds Try.pinned (OpenSpec.upto foldChecksSpec)

/-- 'rabbetlaw05.FoldAll', WHERE WHAT IT READS IS OF BULK AT MOST 1048576: true; the input reads as it did. -/
def foldAllUptoRow : OpenClaim := { program := "ytlooclpfoeakgaa", sum := "0c45ebacebf2066be122ccb5a8bd3e0325c98edda8aa2a1a0eb311bcb0a1ddd9", func := "rabbet/rabbetlaw05.FoldAll", spec := "foldAll", unfollowed := true, recurses := true, plainKeys := false, apart := false, narrowed := true }
def FoldAllUptoSaid : Prop := foldAllUptoRow.holds Try.pinned (OpenSpec.upto foldAllSpec)

/-- 'rabbetlaw05.FoldCosets', WHERE WHAT IT READS IS OF BULK AT MOST 1048576: true; the input reads as it did. -/
def foldCosetsUptoRow : OpenClaim := { program := "ytlooclpfoeakgaa", sum := "0c45ebacebf2066be122ccb5a8bd3e0325c98edda8aa2a1a0eb311bcb0a1ddd9", func := "rabbet/rabbetlaw05.FoldCosets", spec := "foldCosets", unfollowed := true, recurses := true, plainKeys := false, apart := false, narrowed := true }
def FoldCosetsUptoSaid : Prop := foldCosetsUptoRow.holds Try.pinned (OpenSpec.upto foldCosetsSpec)

end Rows
end Go.Proofs.Ytlooclpfoeakgaa
