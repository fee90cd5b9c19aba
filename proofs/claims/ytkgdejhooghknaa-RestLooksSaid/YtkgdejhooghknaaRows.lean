/-
  No cell of these rows narrows 'for every input' (looked for: loops, veiled, ifaces, maps, wideKeys, modest, calm, conditions, laid).
  DERIVED. THE GIVEN ROWS OF THIS SEAT. 10 by the template 'for every input the law returns true; each argument reads behind the call as it read before'; 0 by the template 'total and deterministic' (their statements: YtkgdejhooghknaaTotals.lean).
  GIVEN WITH THE SEED: the statements are not yours to turn. If you find one false, say at which input.
  Laid BY PROGRAM, IN A SANDBOX (cutbox-rows.mjs): the forced cells as the released guide's own fill.sh prints them over the translation 71a698d98f53f290… (all of the seat's roots in one cut). By AI agents, Wed Nov 11 2026. No macro, syntax, notation, axiom, sorry.
-/
import Derived.Test.YtkgdejhooghknaaChecked
import GoSem.Claim
import GoSem.ClaimJoined
import GoSem.ClaimMapViews
import Derived.JoinedTies
import Derived.KernelRfl
namespace Go.Proofs.Ytkgdejhooghknaa
/- THE CELL 'sum', in the pinned program and in every row, IS THE sha256 OF THE DUMP (.gsa) THAT YtkgdejhooghknaaProg.lean LOADS. Nothing in Lean hashes anything: it is a label: what it is worth is what the hold of that sum in a sandbox is worth. -/
noncomputable def Try.pinned : Pinned := { name := "ytkgdejhooghknaa", sum := "71a698d98f53f290bb1874ffe713df671dac827ce5951a617cd59d9c63ad7f5d", checked := Try.checked }
namespace Rows
def none {H : Type} : Left H := { results := [], args := [] }

/-- 'lapworkslaw06.RestReads': WHATEVER THE INPUT: true; the input reads as it did. -/
def restReadsSpec : ChangeSpec := { name := "restReads", fn := fun _ => fun
  | [d1, d2] => { results := [.lit (.bool true)], args := [d1, d2] }
  | _ => none }
def restReadsRow : OpenClaim := { program := "ytkgdejhooghknaa", sum := "71a698d98f53f290bb1874ffe713df671dac827ce5951a617cd59d9c63ad7f5d", func := "lapworks/lapworkslaw06.RestReads", spec := "restReads", unfollowed := true, recurses := true, plainKeys := false, apart := false }
def RestReadsSaid : Prop := restReadsRow.holds Try.pinned (OpenSpec.ofChange restReadsSpec)

/-- ITS FALSE NEIGHBOUR: 'it returns false'. Refute it at one input. -/
def restReadsWrong : ChangeSpec := { name := "restReads", fn := fun _ => fun
  | [d1, d2] => { results := [.lit (.bool false)], args := [d1, d2] }
  | _ => none }
def RestReadsWrongFalsely : Prop := restReadsRow.holds Try.pinned (OpenSpec.ofChange restReadsWrong)

/-- 'lapworkslaw06.RestPlans': WHATEVER THE INPUT: true; the input reads as it did. -/
def restPlansSpec : ChangeSpec := { name := "restPlans", fn := fun _ => fun
  | [d] => { results := [.lit (.bool true)], args := [d] }
  | _ => none }
def restPlansRow : OpenClaim := { program := "ytkgdejhooghknaa", sum := "71a698d98f53f290bb1874ffe713df671dac827ce5951a617cd59d9c63ad7f5d", func := "lapworks/lapworkslaw06.RestPlans", spec := "restPlans", unfollowed := true, recurses := true, plainKeys := false, apart := false }
def RestPlansSaid : Prop := restPlansRow.holds Try.pinned (OpenSpec.ofChange restPlansSpec)

/-- ITS FALSE NEIGHBOUR: 'it returns false'. Refute it at one input. -/
def restPlansWrong : ChangeSpec := { name := "restPlans", fn := fun _ => fun
  | [d] => { results := [.lit (.bool false)], args := [d] }
  | _ => none }
def RestPlansWrongFalsely : Prop := restPlansRow.holds Try.pinned (OpenSpec.ofChange restPlansWrong)

/-- 'lapworkslaw06.RestLooks': WHATEVER THE INPUT: true; the input reads as it did. -/
def restLooksSpec : ChangeSpec := { name := "restLooks", fn := fun _ => fun
  | [d1, d2] => { results := [.lit (.bool true)], args := [d1, d2] }
  | _ => none }
def restLooksRow : OpenClaim := { program := "ytkgdejhooghknaa", sum := "71a698d98f53f290bb1874ffe713df671dac827ce5951a617cd59d9c63ad7f5d", func := "lapworks/lapworkslaw06.RestLooks", spec := "restLooks", unfollowed := true, recurses := true, plainKeys := false, apart := false }
def RestLooksSaid : Prop := restLooksRow.holds Try.pinned (OpenSpec.ofChange restLooksSpec)

/-- ITS FALSE NEIGHBOUR: 'it returns false'. Refute it at one input. -/
def restLooksWrong : ChangeSpec := { name := "restLooks", fn := fun _ => fun
  | [d1, d2] => { results := [.lit (.bool false)], args := [d1, d2] }
  | _ => none }
def RestLooksWrongFalsely : Prop := restLooksRow.holds Try.pinned (OpenSpec.ofChange restLooksWrong)

/-- 'lapworkslaw06.RestChecks': WHATEVER THE INPUT: true; the input reads as it did. -/
def restChecksSpec : ChangeSpec := { name := "restChecks", fn := fun _ => fun
  | [d1, d2] => { results := [.lit (.bool true)], args := [d1, d2] }
  | _ => none }
def restChecksRow : OpenClaim := { program := "ytkgdejhooghknaa", sum := "71a698d98f53f290bb1874ffe713df671dac827ce5951a617cd59d9c63ad7f5d", func := "lapworks/lapworkslaw06.RestChecks", spec := "restChecks", unfollowed := true, recurses := true, plainKeys := false, apart := false }
def RestChecksSaid : Prop := restChecksRow.holds Try.pinned (OpenSpec.ofChange restChecksSpec)

/-- ITS FALSE NEIGHBOUR: 'it returns false'. Refute it at one input. -/
def restChecksWrong : ChangeSpec := { name := "restChecks", fn := fun _ => fun
  | [d1, d2] => { results := [.lit (.bool false)], args := [d1, d2] }
  | _ => none }
def RestChecksWrongFalsely : Prop := restChecksRow.holds Try.pinned (OpenSpec.ofChange restChecksWrong)

/-- 'lapworkslaw06.RestFewest': WHATEVER THE INPUT: true; the input reads as it did. -/
def restFewestSpec : ChangeSpec := { name := "restFewest", fn := fun _ => fun
  | [d1, d2] => { results := [.lit (.bool true)], args := [d1, d2] }
  | _ => none }
def restFewestRow : OpenClaim := { program := "ytkgdejhooghknaa", sum := "71a698d98f53f290bb1874ffe713df671dac827ce5951a617cd59d9c63ad7f5d", func := "lapworks/lapworkslaw06.RestFewest", spec := "restFewest", unfollowed := true, recurses := true, plainKeys := false, apart := false }
def RestFewestSaid : Prop := restFewestRow.holds Try.pinned (OpenSpec.ofChange restFewestSpec)

/-- ITS FALSE NEIGHBOUR: 'it returns false'. Refute it at one input. -/
def restFewestWrong : ChangeSpec := { name := "restFewest", fn := fun _ => fun
  | [d1, d2] => { results := [.lit (.bool false)], args := [d1, d2] }
  | _ => none }
def RestFewestWrongFalsely : Prop := restFewestRow.holds Try.pinned (OpenSpec.ofChange restFewestWrong)

/-- 'lapworkslaw06.RestEven': WHATEVER THE INPUT: true; the input reads as it did. -/
def restEvenSpec : ChangeSpec := { name := "restEven", fn := fun _ => fun
  | [d1, d2] => { results := [.lit (.bool true)], args := [d1, d2] }
  | _ => none }
def restEvenRow : OpenClaim := { program := "ytkgdejhooghknaa", sum := "71a698d98f53f290bb1874ffe713df671dac827ce5951a617cd59d9c63ad7f5d", func := "lapworks/lapworkslaw06.RestEven", spec := "restEven", unfollowed := true, recurses := true, plainKeys := false, apart := false }
def RestEvenSaid : Prop := restEvenRow.holds Try.pinned (OpenSpec.ofChange restEvenSpec)

/-- ITS FALSE NEIGHBOUR: 'it returns false'. Refute it at one input. -/
def restEvenWrong : ChangeSpec := { name := "restEven", fn := fun _ => fun
  | [d1, d2] => { results := [.lit (.bool false)], args := [d1, d2] }
  | _ => none }
def RestEvenWrongFalsely : Prop := restEvenRow.holds Try.pinned (OpenSpec.ofChange restEvenWrong)

/-- 'lapworkslaw06.RestMust': WHATEVER THE INPUT: true; the input reads as it did. -/
def restMustSpec : ChangeSpec := { name := "restMust", fn := fun _ => fun
  | [d1, d2] => { results := [.lit (.bool true)], args := [d1, d2] }
  | _ => none }
def restMustRow : OpenClaim := { program := "ytkgdejhooghknaa", sum := "71a698d98f53f290bb1874ffe713df671dac827ce5951a617cd59d9c63ad7f5d", func := "lapworks/lapworkslaw06.RestMust", spec := "restMust", unfollowed := true, recurses := true, plainKeys := false, apart := false }
def RestMustSaid : Prop := restMustRow.holds Try.pinned (OpenSpec.ofChange restMustSpec)

/-- ITS FALSE NEIGHBOUR: 'it returns false'. Refute it at one input. -/
def restMustWrong : ChangeSpec := { name := "restMust", fn := fun _ => fun
  | [d1, d2] => { results := [.lit (.bool false)], args := [d1, d2] }
  | _ => none }
def RestMustWrongFalsely : Prop := restMustRow.holds Try.pinned (OpenSpec.ofChange restMustWrong)

/-- 'lapworkslaw06.RestUntil': WHATEVER THE INPUT: true; the input reads as it did. -/
def restUntilSpec : ChangeSpec := { name := "restUntil", fn := fun _ => fun
  | [d] => { results := [.lit (.bool true)], args := [d] }
  | _ => none }
def restUntilRow : OpenClaim := { program := "ytkgdejhooghknaa", sum := "71a698d98f53f290bb1874ffe713df671dac827ce5951a617cd59d9c63ad7f5d", func := "lapworks/lapworkslaw06.RestUntil", spec := "restUntil", unfollowed := true, recurses := true, plainKeys := false, apart := false }
def RestUntilSaid : Prop := restUntilRow.holds Try.pinned (OpenSpec.ofChange restUntilSpec)

/-- ITS FALSE NEIGHBOUR: 'it returns false'. Refute it at one input. -/
def restUntilWrong : ChangeSpec := { name := "restUntil", fn := fun _ => fun
  | [d] => { results := [.lit (.bool false)], args := [d] }
  | _ => none }
def RestUntilWrongFalsely : Prop := restUntilRow.holds Try.pinned (OpenSpec.ofChange restUntilWrong)

/-- 'lapworkslaw06.RestMore': WHATEVER THE INPUT: true; the input reads as it did. -/
def restMoreSpec : ChangeSpec := { name := "restMore", fn := fun _ => fun
  | [d1, d2, d3] => { results := [.lit (.bool true)], args := [d1, d2, d3] }
  | _ => none }
def restMoreRow : OpenClaim := { program := "ytkgdejhooghknaa", sum := "71a698d98f53f290bb1874ffe713df671dac827ce5951a617cd59d9c63ad7f5d", func := "lapworks/lapworkslaw06.RestMore", spec := "restMore", unfollowed := true, recurses := true, plainKeys := false, apart := false }
def RestMoreSaid : Prop := restMoreRow.holds Try.pinned (OpenSpec.ofChange restMoreSpec)

/-- ITS FALSE NEIGHBOUR: 'it returns false'. Refute it at one input. -/
def restMoreWrong : ChangeSpec := { name := "restMore", fn := fun _ => fun
  | [d1, d2, d3] => { results := [.lit (.bool false)], args := [d1, d2, d3] }
  | _ => none }
def RestMoreWrongFalsely : Prop := restMoreRow.holds Try.pinned (OpenSpec.ofChange restMoreWrong)

/-- 'lapworkslaw06.RestTurned': WHATEVER THE INPUT: true; the input reads as it did. -/
def restTurnedSpec : ChangeSpec := { name := "restTurned", fn := fun _ => fun
  | [d1, d2, d3] => { results := [.lit (.bool true)], args := [d1, d2, d3] }
  | _ => none }
def restTurnedRow : OpenClaim := { program := "ytkgdejhooghknaa", sum := "71a698d98f53f290bb1874ffe713df671dac827ce5951a617cd59d9c63ad7f5d", func := "lapworks/lapworkslaw06.RestTurned", spec := "restTurned", unfollowed := true, recurses := true, plainKeys := false, apart := false }
def RestTurnedSaid : Prop := restTurnedRow.holds Try.pinned (OpenSpec.ofChange restTurnedSpec)

/-- ITS FALSE NEIGHBOUR: 'it returns false'. Refute it at one input. -/
def restTurnedWrong : ChangeSpec := { name := "restTurned", fn := fun _ => fun
  | [d1, d2, d3] => { results := [.lit (.bool false)], args := [d1, d2, d3] }
  | _ => none }
def RestTurnedWrongFalsely : Prop := restTurnedRow.holds Try.pinned (OpenSpec.ofChange restTurnedWrong)

/- THE SECOND FORM. 'bulk': how many values and letters a reading holds, each counted each time it is reached (what is shared counts as often as it is met; a slice's spare places count too). A statement '..UptoSaid' is the law's where the arguments, and the package variables that the reading takes, are together of bulk at most 1048576: NARROWER than '..Said'. Prove '..Said' where nothing that the law and all that it calls make is longer than what came in: it says more and counts as full. Else prove '..UptoSaid'. A law counts once. -/
mutual
def uptoBulk {H : Type} : DataW H → Nat
  | .lit (.string bytes) => bytes.length + 1
  | .lit _ => 1
  | .nil => 1
  | .ptr d => uptoBulk d + 1
  | .slice elems spare => uptoBulkAll elems + uptoBulkAll spare + 1
  | .agg parts => uptoBulkAll parts + 1
  | .iface _ d => uptoBulk d + 1
  | .map entries => uptoBulkEntries entries + 1
  | .held _ => 1
def uptoBulkAll {H : Type} : List (DataW H) → Nat
  | [] => 0
  | d :: r => uptoBulk d + uptoBulkAll r
def uptoBulkEntries {H : Type} : List (Lit × DataW H) → Nat
  | [] => 0
  | x :: r => uptoBulkEntry x + uptoBulkEntries r
def uptoBulkEntry {H : Type} : Lit × DataW H → Nat
  | (.string bytes, d) => bytes.length + uptoBulk d + 1
  | (_, d) => uptoBulk d + 1
 end
def uptoSmall : (H : Type) → List (DataW H) → Bool := fun _ ds => decide (uptoBulkAll ds ≤ 1048576)
def OpenSpec.upto (s : _root_.Go.ChangeSpec) : _root_.Go.OpenSpec := { _root_.Go.OpenSpec.ofChange s with cond := some uptoSmall }

/-- 'lapworkslaw06.RestReads', WHERE WHAT IT READS IS OF BULK AT MOST 1048576: true; the input reads as it did. -/
def restReadsUptoRow : OpenClaim := { program := "ytkgdejhooghknaa", sum := "71a698d98f53f290bb1874ffe713df671dac827ce5951a617cd59d9c63ad7f5d", func := "lapworks/lapworkslaw06.RestReads", spec := "restReads", unfollowed := true, recurses := true, plainKeys := false, apart := false, narrowed := true }
def RestReadsUptoSaid : Prop := restReadsUptoRow.holds Try.pinned (OpenSpec.upto restReadsSpec)

/-- 'lapworkslaw06.RestPlans', WHERE WHAT IT READS IS OF BULK AT MOST 1048576: true; the input reads as it did. -/
def restPlansUptoRow : OpenClaim := { program := "ytkgdejhooghknaa", sum := "71a698d98f53f290bb1874ffe713df671dac827ce5951a617cd59d9c63ad7f5d", func := "lapworks/lapworkslaw06.RestPlans", spec := "restPlans", unfollowed := true, recurses := true, plainKeys := false, apart := false, narrowed := true }
def RestPlansUptoSaid : Prop := restPlansUptoRow.holds Try.pinned (OpenSpec.upto restPlansSpec)

/-- 'lapworkslaw06.RestLooks', WHERE WHAT IT READS IS OF BULK AT MOST 1048576: true; the input reads as it did. -/
def restLooksUptoRow : OpenClaim := { program := "ytkgdejhooghknaa", sum := "71a698d98f53f290bb1874ffe713df671dac827ce5951a617cd59d9c63ad7f5d", func := "lapworks/lapworkslaw06.RestLooks", spec := "restLooks", unfollowed := true, recurses := true, plainKeys := false, apart := false, narrowed := true }
def RestLooksUptoSaid : Prop := restLooksUptoRow.holds Try.pinned (OpenSpec.upto restLooksSpec)

/-- 'lapworkslaw06.RestChecks', WHERE WHAT IT READS IS OF BULK AT MOST 1048576: true; the input reads as it did. -/
def restChecksUptoRow : OpenClaim := { program := "ytkgdejhooghknaa", sum := "71a698d98f53f290bb1874ffe713df671dac827ce5951a617cd59d9c63ad7f5d", func := "lapworks/lapworkslaw06.RestChecks", spec := "restChecks", unfollowed := true, recurses := true, plainKeys := false, apart := false, narrowed := true }
def RestChecksUptoSaid : Prop := restChecksUptoRow.holds Try.pinned (OpenSpec.upto restChecksSpec)

/-- 'lapworkslaw06.RestFewest', WHERE WHAT IT READS IS OF BULK AT MOST 1048576: true; the input reads as it did. -/
def restFewestUptoRow : OpenClaim := { program := "ytkgdejhooghknaa", sum := "71a698d98f53f290bb1874ffe713df671dac827ce5951a617cd59d9c63ad7f5d", func := "lapworks/lapworkslaw06.RestFewest", spec := "restFewest", unfollowed := true, recurses := true, plainKeys := false, apart := false, narrowed := true }
def RestFewestUptoSaid : Prop := restFewestUptoRow.holds Try.pinned (OpenSpec.upto restFewestSpec)

/-- 'lapworkslaw06.RestEven', WHERE WHAT IT READS IS OF BULK AT MOST 1048576: true; the input reads as it did. -/
def restEvenUptoRow : OpenClaim := { program := "ytkgdejhooghknaa", sum := "71a698d98f53f290bb1874ffe713df671dac827ce5951a617cd59d9c63ad7f5d", func := "lapworks/lapworkslaw06.RestEven", spec := "restEven", unfollowed := true, recurses := true, plainKeys := false, apart := false, narrowed := true }
def RestEvenUptoSaid : Prop := restEvenUptoRow.holds Try.pinned (OpenSpec.upto restEvenSpec)

/-- 'lapworkslaw06.RestMust', WHERE WHAT IT READS IS OF BULK AT MOST 1048576: true; the input reads as it did. -/
def restMustUptoRow : OpenClaim := { program := "ytkgdejhooghknaa", sum := "71a698d98f53f290bb1874ffe713df671dac827ce5951a617cd59d9c63ad7f5d", func := "lapworks/lapworkslaw06.RestMust", spec := "restMust", unfollowed := true, recurses := true, plainKeys := false, apart := false, narrowed := true }
def RestMustUptoSaid : Prop := restMustUptoRow.holds Try.pinned (OpenSpec.upto restMustSpec)

/-- 'lapworkslaw06.RestUntil', WHERE WHAT IT READS IS OF BULK AT MOST 1048576: true; the input reads as it did. -/
def restUntilUptoRow : OpenClaim := { program := "ytkgdejhooghknaa", sum := "71a698d98f53f290bb1874ffe713df671dac827ce5951a617cd59d9c63ad7f5d", func := "lapworks/lapworkslaw06.RestUntil", spec := "restUntil", unfollowed := true, recurses := true, plainKeys := false, apart := false, narrowed := true }
def RestUntilUptoSaid : Prop := restUntilUptoRow.holds Try.pinned (OpenSpec.upto restUntilSpec)

/-- 'lapworkslaw06.RestMore', WHERE WHAT IT READS IS OF BULK AT MOST 1048576: true; the input reads as it did. -/
def restMoreUptoRow : OpenClaim := { program := "ytkgdejhooghknaa", sum := "71a698d98f53f290bb1874ffe713df671dac827ce5951a617cd59d9c63ad7f5d", func := "lapworks/lapworkslaw06.RestMore", spec := "restMore", unfollowed := true, recurses := true, plainKeys := false, apart := false, narrowed := true }
def RestMoreUptoSaid : Prop := restMoreUptoRow.holds Try.pinned (OpenSpec.upto restMoreSpec)

/-- 'lapworkslaw06.RestTurned', WHERE WHAT IT READS IS OF BULK AT MOST 1048576: true; the input reads as it did. -/
def restTurnedUptoRow : OpenClaim := { program := "ytkgdejhooghknaa", sum := "71a698d98f53f290bb1874ffe713df671dac827ce5951a617cd59d9c63ad7f5d", func := "lapworks/lapworkslaw06.RestTurned", spec := "restTurned", unfollowed := true, recurses := true, plainKeys := false, apart := false, narrowed := true }
def RestTurnedUptoSaid : Prop := restTurnedUptoRow.holds Try.pinned (OpenSpec.upto restTurnedSpec)

end Rows
end Go.Proofs.Ytkgdejhooghknaa
