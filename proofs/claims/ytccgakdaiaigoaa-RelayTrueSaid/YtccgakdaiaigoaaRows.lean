/-
  No cell of these rows narrows 'for every input' (looked for: loops, veiled, ifaces, maps, wideKeys, modest, calm, conditions, laid).
  DERIVED. THE GIVEN ROWS OF THIS SEAT. 9 by the template 'for every input the law returns true; each argument reads behind the call as it read before'; 0 by the template 'total and deterministic' (their statements: YtccgakdaiaigoaaTotals.lean).
  GIVEN WITH THE SEED: the statements are not yours to turn. If you find one false, say at which input.
  Laid BY PROGRAM, IN A SANDBOX (cutbox-rows.mjs): the forced cells as the released guide's own fill.sh prints them over the translation 26c8c6a92b8eb464… (all of the seat's roots in one cut). By AI agents, Wed Nov 11 2026. No macro, syntax, notation, axiom, sorry.
-/
import Derived.Test.YtccgakdaiaigoaaChecked
import GoSem.Claim
import GoSem.ClaimJoined
import GoSem.ClaimMapViews
import Derived.JoinedTies
import Derived.KernelRfl
namespace Go.Proofs.Ytccgakdaiaigoaa
/- THE CELL 'sum', in the pinned program and in every row, IS THE sha256 OF THE DUMP (.gsa) THAT YtccgakdaiaigoaaProg.lean LOADS. Nothing in Lean hashes anything: it is a label: what it is worth is what the hold of that sum in a sandbox is worth. -/
noncomputable def Try.pinned : Pinned := { name := "ytccgakdaiaigoaa", sum := "26c8c6a92b8eb46449a06e925fb31af4fa5039c73529b9b8fe454662f0007707", checked := Try.checked }
namespace Rows
def none {H : Type} : Left H := { results := [], args := [] }

/-- 'lapworkslaw02.RelayReads': WHATEVER THE INPUT: true; the input reads as it did. -/
def relayReadsSpec : ChangeSpec := { name := "relayReads", fn := fun _ => fun
  | [d1, d2] => { results := [.lit (.bool true)], args := [d1, d2] }
  | _ => none }
def relayReadsRow : OpenClaim := { program := "ytccgakdaiaigoaa", sum := "26c8c6a92b8eb46449a06e925fb31af4fa5039c73529b9b8fe454662f0007707", func := "lapworks/lapworkslaw02.RelayReads", spec := "relayReads", unfollowed := true, recurses := true, plainKeys := false, apart := false }
def RelayReadsSaid : Prop := relayReadsRow.holds Try.pinned (OpenSpec.ofChange relayReadsSpec)

/-- ITS FALSE NEIGHBOUR: 'it returns false'. Refute it at one input. -/
def relayReadsWrong : ChangeSpec := { name := "relayReads", fn := fun _ => fun
  | [d1, d2] => { results := [.lit (.bool false)], args := [d1, d2] }
  | _ => none }
def RelayReadsWrongFalsely : Prop := relayReadsRow.holds Try.pinned (OpenSpec.ofChange relayReadsWrong)

/-- 'lapworkslaw02.RelayLooks': WHATEVER THE INPUT: true; the input reads as it did. -/
def relayLooksSpec : ChangeSpec := { name := "relayLooks", fn := fun _ => fun
  | [d1, d2, d3] => { results := [.lit (.bool true)], args := [d1, d2, d3] }
  | _ => none }
def relayLooksRow : OpenClaim := { program := "ytccgakdaiaigoaa", sum := "26c8c6a92b8eb46449a06e925fb31af4fa5039c73529b9b8fe454662f0007707", func := "lapworks/lapworkslaw02.RelayLooks", spec := "relayLooks", unfollowed := true, recurses := true, plainKeys := false, apart := false }
def RelayLooksSaid : Prop := relayLooksRow.holds Try.pinned (OpenSpec.ofChange relayLooksSpec)

/-- ITS FALSE NEIGHBOUR: 'it returns false'. Refute it at one input. -/
def relayLooksWrong : ChangeSpec := { name := "relayLooks", fn := fun _ => fun
  | [d1, d2, d3] => { results := [.lit (.bool false)], args := [d1, d2, d3] }
  | _ => none }
def RelayLooksWrongFalsely : Prop := relayLooksRow.holds Try.pinned (OpenSpec.ofChange relayLooksWrong)

/-- 'lapworkslaw02.RelayProves': WHATEVER THE INPUT: true; the input reads as it did. -/
def relayProvesSpec : ChangeSpec := { name := "relayProves", fn := fun _ => fun
  | [d] => { results := [.lit (.bool true)], args := [d] }
  | _ => none }
def relayProvesRow : OpenClaim := { program := "ytccgakdaiaigoaa", sum := "26c8c6a92b8eb46449a06e925fb31af4fa5039c73529b9b8fe454662f0007707", func := "lapworks/lapworkslaw02.RelayProves", spec := "relayProves", unfollowed := true, recurses := true, plainKeys := false, apart := false }
def RelayProvesSaid : Prop := relayProvesRow.holds Try.pinned (OpenSpec.ofChange relayProvesSpec)

/-- ITS FALSE NEIGHBOUR: 'it returns false'. Refute it at one input. -/
def relayProvesWrong : ChangeSpec := { name := "relayProves", fn := fun _ => fun
  | [d] => { results := [.lit (.bool false)], args := [d] }
  | _ => none }
def RelayProvesWrongFalsely : Prop := relayProvesRow.holds Try.pinned (OpenSpec.ofChange relayProvesWrong)

/-- 'lapworkslaw02.RelayTrue': WHATEVER THE INPUT: true; the input reads as it did. -/
def relayTrueSpec : ChangeSpec := { name := "relayTrue", fn := fun _ => fun
  | [d] => { results := [.lit (.bool true)], args := [d] }
  | _ => none }
def relayTrueRow : OpenClaim := { program := "ytccgakdaiaigoaa", sum := "26c8c6a92b8eb46449a06e925fb31af4fa5039c73529b9b8fe454662f0007707", func := "lapworks/lapworkslaw02.RelayTrue", spec := "relayTrue", unfollowed := true, recurses := true, plainKeys := false, apart := false }
def RelayTrueSaid : Prop := relayTrueRow.holds Try.pinned (OpenSpec.ofChange relayTrueSpec)

/-- ITS FALSE NEIGHBOUR: 'it returns false'. Refute it at one input. -/
def relayTrueWrong : ChangeSpec := { name := "relayTrue", fn := fun _ => fun
  | [d] => { results := [.lit (.bool false)], args := [d] }
  | _ => none }
def RelayTrueWrongFalsely : Prop := relayTrueRow.holds Try.pinned (OpenSpec.ofChange relayTrueWrong)

/-- 'lapworkslaw02.RelayEnds': WHATEVER THE INPUT: true; the input reads as it did. -/
def relayEndsSpec : ChangeSpec := { name := "relayEnds", fn := fun _ => fun
  | [d1, d2, d3] => { results := [.lit (.bool true)], args := [d1, d2, d3] }
  | _ => none }
def relayEndsRow : OpenClaim := { program := "ytccgakdaiaigoaa", sum := "26c8c6a92b8eb46449a06e925fb31af4fa5039c73529b9b8fe454662f0007707", func := "lapworks/lapworkslaw02.RelayEnds", spec := "relayEnds", unfollowed := true, recurses := true, plainKeys := false, apart := false }
def RelayEndsSaid : Prop := relayEndsRow.holds Try.pinned (OpenSpec.ofChange relayEndsSpec)

/-- ITS FALSE NEIGHBOUR: 'it returns false'. Refute it at one input. -/
def relayEndsWrong : ChangeSpec := { name := "relayEnds", fn := fun _ => fun
  | [d1, d2, d3] => { results := [.lit (.bool false)], args := [d1, d2, d3] }
  | _ => none }
def RelayEndsWrongFalsely : Prop := relayEndsRow.holds Try.pinned (OpenSpec.ofChange relayEndsWrong)

/-- 'lapworkslaw02.RelayMinutes': WHATEVER THE INPUT: true; the input reads as it did. -/
def relayMinutesSpec : ChangeSpec := { name := "relayMinutes", fn := fun _ => fun
  | [d1, d2, d3, d4] => { results := [.lit (.bool true)], args := [d1, d2, d3, d4] }
  | _ => none }
def relayMinutesRow : OpenClaim := { program := "ytccgakdaiaigoaa", sum := "26c8c6a92b8eb46449a06e925fb31af4fa5039c73529b9b8fe454662f0007707", func := "lapworks/lapworkslaw02.RelayMinutes", spec := "relayMinutes", unfollowed := true, recurses := true, plainKeys := false, apart := false }
def RelayMinutesSaid : Prop := relayMinutesRow.holds Try.pinned (OpenSpec.ofChange relayMinutesSpec)

/-- ITS FALSE NEIGHBOUR: 'it returns false'. Refute it at one input. -/
def relayMinutesWrong : ChangeSpec := { name := "relayMinutes", fn := fun _ => fun
  | [d1, d2, d3, d4] => { results := [.lit (.bool false)], args := [d1, d2, d3, d4] }
  | _ => none }
def RelayMinutesWrongFalsely : Prop := relayMinutesRow.holds Try.pinned (OpenSpec.ofChange relayMinutesWrong)

/-- 'lapworkslaw02.RelayClash': WHATEVER THE INPUT: true; the input reads as it did. -/
def relayClashSpec : ChangeSpec := { name := "relayClash", fn := fun _ => fun
  | [d1, d2] => { results := [.lit (.bool true)], args := [d1, d2] }
  | _ => none }
def relayClashRow : OpenClaim := { program := "ytccgakdaiaigoaa", sum := "26c8c6a92b8eb46449a06e925fb31af4fa5039c73529b9b8fe454662f0007707", func := "lapworks/lapworkslaw02.RelayClash", spec := "relayClash", unfollowed := true, recurses := true, plainKeys := false, apart := false }
def RelayClashSaid : Prop := relayClashRow.holds Try.pinned (OpenSpec.ofChange relayClashSpec)

/-- ITS FALSE NEIGHBOUR: 'it returns false'. Refute it at one input. -/
def relayClashWrong : ChangeSpec := { name := "relayClash", fn := fun _ => fun
  | [d1, d2] => { results := [.lit (.bool false)], args := [d1, d2] }
  | _ => none }
def RelayClashWrongFalsely : Prop := relayClashRow.holds Try.pinned (OpenSpec.ofChange relayClashWrong)

/-- 'lapworkslaw02.RelayWrong': WHATEVER THE INPUT: true; the input reads as it did. -/
def relayWrongSpec : ChangeSpec := { name := "relayWrong", fn := fun _ => fun
  | [d1, d2] => { results := [.lit (.bool true)], args := [d1, d2] }
  | _ => none }
def relayWrongRow : OpenClaim := { program := "ytccgakdaiaigoaa", sum := "26c8c6a92b8eb46449a06e925fb31af4fa5039c73529b9b8fe454662f0007707", func := "lapworks/lapworkslaw02.RelayWrong", spec := "relayWrong", unfollowed := true, recurses := true, plainKeys := false, apart := false }
def RelayWrongSaid : Prop := relayWrongRow.holds Try.pinned (OpenSpec.ofChange relayWrongSpec)

/-- ITS FALSE NEIGHBOUR: 'it returns false'. Refute it at one input. -/
def relayWrongWrong : ChangeSpec := { name := "relayWrong", fn := fun _ => fun
  | [d1, d2] => { results := [.lit (.bool false)], args := [d1, d2] }
  | _ => none }
def RelayWrongWrongFalsely : Prop := relayWrongRow.holds Try.pinned (OpenSpec.ofChange relayWrongWrong)

/-- 'lapworkslaw02.RelayTurned': WHATEVER THE INPUT: true; the input reads as it did. -/
def relayTurnedSpec : ChangeSpec := { name := "relayTurned", fn := fun _ => fun
  | [d1, d2, d3] => { results := [.lit (.bool true)], args := [d1, d2, d3] }
  | _ => none }
def relayTurnedRow : OpenClaim := { program := "ytccgakdaiaigoaa", sum := "26c8c6a92b8eb46449a06e925fb31af4fa5039c73529b9b8fe454662f0007707", func := "lapworks/lapworkslaw02.RelayTurned", spec := "relayTurned", unfollowed := true, recurses := true, plainKeys := false, apart := false }
def RelayTurnedSaid : Prop := relayTurnedRow.holds Try.pinned (OpenSpec.ofChange relayTurnedSpec)

/-- ITS FALSE NEIGHBOUR: 'it returns false'. Refute it at one input. -/
def relayTurnedWrong : ChangeSpec := { name := "relayTurned", fn := fun _ => fun
  | [d1, d2, d3] => { results := [.lit (.bool false)], args := [d1, d2, d3] }
  | _ => none }
def RelayTurnedWrongFalsely : Prop := relayTurnedRow.holds Try.pinned (OpenSpec.ofChange relayTurnedWrong)

/- THE SECOND FORM. 'bulk': how many values and letters a reading holds, each counted each time it is reached (what is shared counts as often as it is met; a slice's spare places count too). A statement '..UptoSaid' is the law's where the arguments, and the package variables that the reading takes, are together of bulk at most 1048576: NARROWER than '..Said'. Prove '..Said' where nothing that the law and all that it calls make is longer than what came in: it says more and counts as full. Else prove '..UptoSaid'. A law counts once. -/
mutual
def uptoBulk {H : Type} : DataW H → Nat
  | .lit (.string bytes) => bytes.length + 1
  | .lit _ => 1
  | .nil => 1
  | .ptr d => uptoBulk d + 1
  | .slice elems spare => uptoBulkAll elems + uptoBulkAll spare + 1
  | .agg parts => uptoBulkAll parts + 1
  | .iface _ d => uptoBulk d + 1
  | .map entries => uptoBulkEntries entries + 1
  | .held _ => 1
def uptoBulkAll {H : Type} : List (DataW H) → Nat
  | [] => 0
  | d :: r => uptoBulk d + uptoBulkAll r
def uptoBulkEntries {H : Type} : List (Lit × DataW H) → Nat
  | [] => 0
  | x :: r => uptoBulkEntry x + uptoBulkEntries r
def uptoBulkEntry {H : Type} : Lit × DataW H → Nat
  | (.string bytes, d) => bytes.length + uptoBulk d + 1
  | (_, d) => uptoBulk d + 1
 end
def uptoSmall : (H : Type) → List (DataW H) → Bool := fun _ ds => decide (uptoBulkAll ds ≤ 1048576)
def OpenSpec.upto (s : _root_.Go.ChangeSpec) : _root_.Go.OpenSpec := { _root_.Go.OpenSpec.ofChange s with cond := some uptoSmall }

/-- 'lapworkslaw02.RelayReads', WHERE WHAT IT READS IS OF BULK AT MOST 1048576: true; the input reads as it did. -/
def relayReadsUptoRow : OpenClaim := { program := "ytccgakdaiaigoaa", sum := "26c8c6a92b8eb46449a06e925fb31af4fa5039c73529b9b8fe454662f0007707", func := "lapworks/lapworkslaw02.RelayReads", spec := "relayReads", unfollowed := true, recurses := true, plainKeys := false, apart := false, narrowed := true }
def RelayReadsUptoSaid : Prop := relayReadsUptoRow.holds Try.pinned (OpenSpec.upto relayReadsSpec)

/-- 'lapworkslaw02.RelayLooks', WHERE WHAT IT READS IS OF BULK AT MOST 1048576: true; the input reads as it did. -/
def relayLooksUptoRow : OpenClaim := { program := "ytccgakdaiaigoaa", sum := "26c8c6a92b8eb46449a06e925fb31af4fa5039c73529b9b8fe454662f0007707", func := "lapworks/lapworkslaw02.RelayLooks", spec := "relayLooks", unfollowed := true, recurses := true, plainKeys := false, apart := false, narrowed := true }
def RelayLooksUptoSaid : Prop := relayLooksUptoRow.holds Try.pinned (OpenSpec.upto relayLooksSpec)

/-- 'lapworkslaw02.RelayProves', WHERE WHAT IT READS IS OF BULK AT MOST 1048576: true; the input reads as it did. -/
def relayProvesUptoRow : OpenClaim := { program := "ytccgakdaiaigoaa", sum := "26c8c6a92b8eb46449a06e925fb31af4fa5039c73529b9b8fe454662f0007707", func := "lapworks/lapworkslaw02.RelayProves", spec := "relayProves", unfollowed := true, recurses := true, plainKeys := false, apart := false, narrowed := true }
def RelayProvesUptoSaid : Prop := relayProvesUptoRow.holds Try.pinned (OpenSpec.upto relayProvesSpec)

/-- 'lapworkslaw02.RelayTrue', WHERE WHAT IT READS IS OF BULK AT MOST 1048576: true; the input reads as it did. -/
def relayTrueUptoRow : OpenClaim := { program := "ytccgakdaiaigoaa", sum := "26c8c6a92b8eb46449a06e925fb31af4fa5039c73529b9b8fe454662f0007707", func := "lapworks/lapworkslaw02.RelayTrue", spec := "relayTrue", unfollowed := true, recurses := true, plainKeys := false, apart := false, narrowed := true }
def RelayTrueUptoSaid : Prop := relayTrueUptoRow.holds Try.pinned (OpenSpec.upto relayTrueSpec)

/-- 'lapworkslaw02.RelayEnds', WHERE WHAT IT READS IS OF BULK AT MOST 1048576: true; the input reads as it did. -/
def relayEndsUptoRow : OpenClaim := { program := "ytccgakdaiaigoaa", sum := "26c8c6a92b8eb46449a06e925fb31af4fa5039c73529b9b8fe454662f0007707", func := "lapworks/lapworkslaw02.RelayEnds", spec := "relayEnds", unfollowed := true, recurses := true, plainKeys := false, apart := false, narrowed := true }
def RelayEndsUptoSaid : Prop := relayEndsUptoRow.holds Try.pinned (OpenSpec.upto relayEndsSpec)

/-- 'lapworkslaw02.RelayMinutes', WHERE WHAT IT READS IS OF BULK AT MOST 1048576: true; the input reads as it did. -/
def relayMinutesUptoRow : OpenClaim := { program := "ytccgakdaiaigoaa", sum := "26c8c6a92b8eb46449a06e925fb31af4fa5039c73529b9b8fe454662f0007707", func := "lapworks/lapworkslaw02.RelayMinutes", spec := "relayMinutes", unfollowed := true, recurses := true, plainKeys := false, apart := false, narrowed := true }
def RelayMinutesUptoSaid : Prop := relayMinutesUptoRow.holds Try.pinned (OpenSpec.upto relayMinutesSpec)

/-- 'lapworkslaw02.RelayClash', WHERE WHAT IT READS IS OF BULK AT MOST 1048576: true; the input reads as it did. -/
def relayClashUptoRow : OpenClaim := { program := "ytccgakdaiaigoaa", sum := "26c8c6a92b8eb46449a06e925fb31af4fa5039c73529b9b8fe454662f0007707", func := "lapworks/lapworkslaw02.RelayClash", spec := "relayClash", unfollowed := true, recurses := true, plainKeys := false, apart := false, narrowed := true }
def RelayClashUptoSaid : Prop := relayClashUptoRow.holds Try.pinned (OpenSpec.upto relayClashSpec)

/-- 'lapworkslaw02.RelayWrong', WHERE WHAT IT READS IS OF BULK AT MOST 1048576: true; the input reads as it did. -/
def relayWrongUptoRow : OpenClaim := { program := "ytccgakdaiaigoaa", sum := "26c8c6a92b8eb46449a06e925fb31af4fa5039c73529b9b8fe454662f0007707", func := "lapworks/lapworkslaw02.RelayWrong", spec := "relayWrong", unfollowed := true, recurses := true, plainKeys := false, apart := false, narrowed := true }
def RelayWrongUptoSaid : Prop := relayWrongUptoRow.holds Try.pinned (OpenSpec.upto relayWrongSpec)

/-- 'lapworkslaw02.RelayTurned', WHERE WHAT IT READS IS OF BULK AT MOST 1048576: true; the input reads as it did. -/
def relayTurnedUptoRow : OpenClaim := { program := "ytccgakdaiaigoaa", sum := "26c8c6a92b8eb46449a06e925fb31af4fa5039c73529b9b8fe454662f0007707", func := "lapworks/lapworkslaw02.RelayTurned", spec := "relayTurned", unfollowed := true, recurses := true, plainKeys := false, apart := false, narrowed := true }
def RelayTurnedUptoSaid : Prop := relayTurnedUptoRow.holds Try.pinned (OpenSpec.upto relayTurnedSpec)

end Rows
end Go.Proofs.Ytccgakdaiaigoaa
