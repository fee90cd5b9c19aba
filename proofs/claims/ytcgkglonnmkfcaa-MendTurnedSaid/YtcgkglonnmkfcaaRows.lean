/-
  No cell of these rows narrows 'for every input' (looked for: loops, veiled, ifaces, maps, wideKeys, modest, calm, conditions, laid).
  DERIVED. THE GIVEN ROWS OF THIS SEAT. 9 by the template 'for every input the law returns true; each argument reads behind the call as it read before'; 0 by the template 'total and deterministic' (their statements: YtcgkglonnmkfcaaTotals.lean).
  GIVEN WITH THE SEED: the statements are not yours to turn. If you find one false, say at which input.
  Laid BY PROGRAM, IN A SANDBOX (cutbox-rows.mjs): the forced cells as the released guide's own fill.sh prints them over the translation d3a7291afd1e204f… (all of the seat's roots in one cut). By AI agents, Wed Nov 11 2026. No macro, syntax, notation, axiom, sorry.
-/
import Derived.Test.YtcgkglonnmkfcaaChecked
import GoSem.Claim
import GoSem.ClaimJoined
import GoSem.ClaimMapViews
import Derived.JoinedTies
import Derived.KernelRfl
namespace Go.Proofs.Ytcgkglonnmkfcaa
/- THE CELL 'sum', in the pinned program and in every row, IS THE sha256 OF THE DUMP (.gsa) THAT YtcgkglonnmkfcaaProg.lean LOADS. Nothing in Lean hashes anything: it is a label: what it is worth is what the hold of that sum in a sandbox is worth. -/
noncomputable def Try.pinned : Pinned := { name := "ytcgkglonnmkfcaa", sum := "d3a7291afd1e204f3ea7613d86029feeae11ba1ea8958509edb980cf1619ee9f", checked := Try.checked }
namespace Rows
def none {H : Type} : Left H := { results := [], args := [] }

/-- 'lapworkslaw10.MendReads': WHATEVER THE INPUT: true; the input reads as it did. -/
def mendReadsSpec : ChangeSpec := { name := "mendReads", fn := fun _ => fun
  | [d1, d2] => { results := [.lit (.bool true)], args := [d1, d2] }
  | _ => none }
def mendReadsRow : OpenClaim := { program := "ytcgkglonnmkfcaa", sum := "d3a7291afd1e204f3ea7613d86029feeae11ba1ea8958509edb980cf1619ee9f", func := "lapworks/lapworkslaw10.MendReads", spec := "mendReads", unfollowed := true, recurses := true, plainKeys := false, apart := false }
def MendReadsSaid : Prop := mendReadsRow.holds Try.pinned (OpenSpec.ofChange mendReadsSpec)

/-- ITS FALSE NEIGHBOUR: 'it returns false'. Refute it at one input. -/
def mendReadsWrong : ChangeSpec := { name := "mendReads", fn := fun _ => fun
  | [d1, d2] => { results := [.lit (.bool false)], args := [d1, d2] }
  | _ => none }
def MendReadsWrongFalsely : Prop := mendReadsRow.holds Try.pinned (OpenSpec.ofChange mendReadsWrong)

/-- 'lapworkslaw10.MendLooks': WHATEVER THE INPUT: true; the input reads as it did. -/
def mendLooksSpec : ChangeSpec := { name := "mendLooks", fn := fun _ => fun
  | [d] => { results := [.lit (.bool true)], args := [d] }
  | _ => none }
def mendLooksRow : OpenClaim := { program := "ytcgkglonnmkfcaa", sum := "d3a7291afd1e204f3ea7613d86029feeae11ba1ea8958509edb980cf1619ee9f", func := "lapworks/lapworkslaw10.MendLooks", spec := "mendLooks", unfollowed := true, recurses := true, plainKeys := false, apart := false }
def MendLooksSaid : Prop := mendLooksRow.holds Try.pinned (OpenSpec.ofChange mendLooksSpec)

/-- ITS FALSE NEIGHBOUR: 'it returns false'. Refute it at one input. -/
def mendLooksWrong : ChangeSpec := { name := "mendLooks", fn := fun _ => fun
  | [d] => { results := [.lit (.bool false)], args := [d] }
  | _ => none }
def MendLooksWrongFalsely : Prop := mendLooksRow.holds Try.pinned (OpenSpec.ofChange mendLooksWrong)

/-- 'lapworkslaw10.MendTrue': WHATEVER THE INPUT: true; the input reads as it did. -/
def mendTrueSpec : ChangeSpec := { name := "mendTrue", fn := fun _ => fun
  | [d1, d2, d3] => { results := [.lit (.bool true)], args := [d1, d2, d3] }
  | _ => none }
def mendTrueRow : OpenClaim := { program := "ytcgkglonnmkfcaa", sum := "d3a7291afd1e204f3ea7613d86029feeae11ba1ea8958509edb980cf1619ee9f", func := "lapworks/lapworkslaw10.MendTrue", spec := "mendTrue", unfollowed := true, recurses := true, plainKeys := false, apart := false }
def MendTrueSaid : Prop := mendTrueRow.holds Try.pinned (OpenSpec.ofChange mendTrueSpec)

/-- ITS FALSE NEIGHBOUR: 'it returns false'. Refute it at one input. -/
def mendTrueWrong : ChangeSpec := { name := "mendTrue", fn := fun _ => fun
  | [d1, d2, d3] => { results := [.lit (.bool false)], args := [d1, d2, d3] }
  | _ => none }
def MendTrueWrongFalsely : Prop := mendTrueRow.holds Try.pinned (OpenSpec.ofChange mendTrueWrong)

/-- 'lapworkslaw10.MendEnds': WHATEVER THE INPUT: true; the input reads as it did. -/
def mendEndsSpec : ChangeSpec := { name := "mendEnds", fn := fun _ => fun
  | [d1, d2] => { results := [.lit (.bool true)], args := [d1, d2] }
  | _ => none }
def mendEndsRow : OpenClaim := { program := "ytcgkglonnmkfcaa", sum := "d3a7291afd1e204f3ea7613d86029feeae11ba1ea8958509edb980cf1619ee9f", func := "lapworks/lapworkslaw10.MendEnds", spec := "mendEnds", unfollowed := true, recurses := true, plainKeys := false, apart := false }
def MendEndsSaid : Prop := mendEndsRow.holds Try.pinned (OpenSpec.ofChange mendEndsSpec)

/-- ITS FALSE NEIGHBOUR: 'it returns false'. Refute it at one input. -/
def mendEndsWrong : ChangeSpec := { name := "mendEnds", fn := fun _ => fun
  | [d1, d2] => { results := [.lit (.bool false)], args := [d1, d2] }
  | _ => none }
def MendEndsWrongFalsely : Prop := mendEndsRow.holds Try.pinned (OpenSpec.ofChange mendEndsWrong)

/-- 'lapworkslaw10.MendBest': WHATEVER THE INPUT: true; the input reads as it did. -/
def mendBestSpec : ChangeSpec := { name := "mendBest", fn := fun _ => fun
  | [d1, d2] => { results := [.lit (.bool true)], args := [d1, d2] }
  | _ => none }
def mendBestRow : OpenClaim := { program := "ytcgkglonnmkfcaa", sum := "d3a7291afd1e204f3ea7613d86029feeae11ba1ea8958509edb980cf1619ee9f", func := "lapworks/lapworkslaw10.MendBest", spec := "mendBest", unfollowed := true, recurses := true, plainKeys := false, apart := false }
def MendBestSaid : Prop := mendBestRow.holds Try.pinned (OpenSpec.ofChange mendBestSpec)

/-- ITS FALSE NEIGHBOUR: 'it returns false'. Refute it at one input. -/
def mendBestWrong : ChangeSpec := { name := "mendBest", fn := fun _ => fun
  | [d1, d2] => { results := [.lit (.bool false)], args := [d1, d2] }
  | _ => none }
def MendBestWrongFalsely : Prop := mendBestRow.holds Try.pinned (OpenSpec.ofChange mendBestWrong)

/-- 'lapworkslaw10.MendSlack': WHATEVER THE INPUT: true; the input reads as it did. -/
def mendSlackSpec : ChangeSpec := { name := "mendSlack", fn := fun _ => fun
  | [d1, d2] => { results := [.lit (.bool true)], args := [d1, d2] }
  | _ => none }
def mendSlackRow : OpenClaim := { program := "ytcgkglonnmkfcaa", sum := "d3a7291afd1e204f3ea7613d86029feeae11ba1ea8958509edb980cf1619ee9f", func := "lapworks/lapworkslaw10.MendSlack", spec := "mendSlack", unfollowed := true, recurses := true, plainKeys := false, apart := false }
def MendSlackSaid : Prop := mendSlackRow.holds Try.pinned (OpenSpec.ofChange mendSlackSpec)

/-- ITS FALSE NEIGHBOUR: 'it returns false'. Refute it at one input. -/
def mendSlackWrong : ChangeSpec := { name := "mendSlack", fn := fun _ => fun
  | [d1, d2] => { results := [.lit (.bool false)], args := [d1, d2] }
  | _ => none }
def MendSlackWrongFalsely : Prop := mendSlackRow.holds Try.pinned (OpenSpec.ofChange mendSlackWrong)

/-- 'lapworkslaw10.MendDrop': WHATEVER THE INPUT: true; the input reads as it did. -/
def mendDropSpec : ChangeSpec := { name := "mendDrop", fn := fun _ => fun
  | [d1, d2] => { results := [.lit (.bool true)], args := [d1, d2] }
  | _ => none }
def mendDropRow : OpenClaim := { program := "ytcgkglonnmkfcaa", sum := "d3a7291afd1e204f3ea7613d86029feeae11ba1ea8958509edb980cf1619ee9f", func := "lapworks/lapworkslaw10.MendDrop", spec := "mendDrop", unfollowed := true, recurses := true, plainKeys := false, apart := false }
def MendDropSaid : Prop := mendDropRow.holds Try.pinned (OpenSpec.ofChange mendDropSpec)

/-- ITS FALSE NEIGHBOUR: 'it returns false'. Refute it at one input. -/
def mendDropWrong : ChangeSpec := { name := "mendDrop", fn := fun _ => fun
  | [d1, d2] => { results := [.lit (.bool false)], args := [d1, d2] }
  | _ => none }
def MendDropWrongFalsely : Prop := mendDropRow.holds Try.pinned (OpenSpec.ofChange mendDropWrong)

/-- 'lapworkslaw10.MendMore': WHATEVER THE INPUT: true; the input reads as it did. -/
def mendMoreSpec : ChangeSpec := { name := "mendMore", fn := fun _ => fun
  | [d1, d2, d3, d4] => { results := [.lit (.bool true)], args := [d1, d2, d3, d4] }
  | _ => none }
def mendMoreRow : OpenClaim := { program := "ytcgkglonnmkfcaa", sum := "d3a7291afd1e204f3ea7613d86029feeae11ba1ea8958509edb980cf1619ee9f", func := "lapworks/lapworkslaw10.MendMore", spec := "mendMore", unfollowed := true, recurses := true, plainKeys := false, apart := false }
def MendMoreSaid : Prop := mendMoreRow.holds Try.pinned (OpenSpec.ofChange mendMoreSpec)

/-- ITS FALSE NEIGHBOUR: 'it returns false'. Refute it at one input. -/
def mendMoreWrong : ChangeSpec := { name := "mendMore", fn := fun _ => fun
  | [d1, d2, d3, d4] => { results := [.lit (.bool false)], args := [d1, d2, d3, d4] }
  | _ => none }
def MendMoreWrongFalsely : Prop := mendMoreRow.holds Try.pinned (OpenSpec.ofChange mendMoreWrong)

/-- 'lapworkslaw10.MendTurned': WHATEVER THE INPUT: true; the input reads as it did. -/
def mendTurnedSpec : ChangeSpec := { name := "mendTurned", fn := fun _ => fun
  | [d1, d2] => { results := [.lit (.bool true)], args := [d1, d2] }
  | _ => none }
def mendTurnedRow : OpenClaim := { program := "ytcgkglonnmkfcaa", sum := "d3a7291afd1e204f3ea7613d86029feeae11ba1ea8958509edb980cf1619ee9f", func := "lapworks/lapworkslaw10.MendTurned", spec := "mendTurned", unfollowed := true, recurses := true, plainKeys := false, apart := false }
def MendTurnedSaid : Prop := mendTurnedRow.holds Try.pinned (OpenSpec.ofChange mendTurnedSpec)

/-- ITS FALSE NEIGHBOUR: 'it returns false'. Refute it at one input. -/
def mendTurnedWrong : ChangeSpec := { name := "mendTurned", fn := fun _ => fun
  | [d1, d2] => { results := [.lit (.bool false)], args := [d1, d2] }
  | _ => none }
def MendTurnedWrongFalsely : Prop := mendTurnedRow.holds Try.pinned (OpenSpec.ofChange mendTurnedWrong)

/- THE SECOND FORM. 'bulk': how many values and letters a reading holds, each counted each time it is reached (what is shared counts as often as it is met; a slice's spare places count too). A statement '..UptoSaid' is the law's where the arguments, and the package variables that the reading takes, are together of bulk at most 1048576: NARROWER than '..Said'. Prove '..Said' where nothing that the law and all that it calls make is longer than what came in: it says more and counts as full. Else prove '..UptoSaid'. A law counts once. -/
mutual
def uptoBulk {H : Type} : DataW H → Nat
  | .lit (.string bytes) => bytes.length + 1
  | .lit _ => 1
  | .nil => 1
  | .ptr d => uptoBulk d + 1
  | .slice elems spare => uptoBulkAll elems + uptoBulkAll spare + 1
  | .agg parts => uptoBulkAll parts + 1
  | .iface _ d => uptoBulk d + 1
  | .map entries => uptoBulkEntries entries + 1
  | .held _ => 1
def uptoBulkAll {H : Type} : List (DataW H) → Nat
  | [] => 0
  | d :: r => uptoBulk d + uptoBulkAll r
def uptoBulkEntries {H : Type} : List (Lit × DataW H) → Nat
  | [] => 0
  | x :: r => uptoBulkEntry x + uptoBulkEntries r
def uptoBulkEntry {H : Type} : Lit × DataW H → Nat
  | (.string bytes, d) => bytes.length + uptoBulk d + 1
  | (_, d) => uptoBulk d + 1
 end
def uptoSmall : (H : Type) → List (DataW H) → Bool := fun _ ds => decide (uptoBulkAll ds ≤ 1048576)
def OpenSpec.upto (s : _root_.Go.ChangeSpec) : _root_.Go.OpenSpec := { _root_.Go.OpenSpec.ofChange s with cond := some uptoSmall }

/-- 'lapworkslaw10.MendReads', WHERE WHAT IT READS IS OF BULK AT MOST 1048576: true; the input reads as it did. -/
def mendReadsUptoRow : OpenClaim := { program := "ytcgkglonnmkfcaa", sum := "d3a7291afd1e204f3ea7613d86029feeae11ba1ea8958509edb980cf1619ee9f", func := "lapworks/lapworkslaw10.MendReads", spec := "mendReads", unfollowed := true, recurses := true, plainKeys := false, apart := false, narrowed := true }
def MendReadsUptoSaid : Prop := mendReadsUptoRow.holds Try.pinned (OpenSpec.upto mendReadsSpec)

/-- 'lapworkslaw10.MendLooks', WHERE WHAT IT READS IS OF BULK AT MOST 1048576: true; the input reads as it did. -/
def mendLooksUptoRow : OpenClaim := { program := "ytcgkglonnmkfcaa", sum := "d3a7291afd1e204f3ea7613d86029feeae11ba1ea8958509edb980cf1619ee9f", func := "lapworks/lapworkslaw10.MendLooks", spec := "mendLooks", unfollowed := true, recurses := true, plainKeys := false, apart := false, narrowed := true }
def MendLooksUptoSaid : Prop := mendLooksUptoRow.holds Try.pinned (OpenSpec.upto mendLooksSpec)

/-- 'lapworkslaw10.MendTrue', WHERE WHAT IT READS IS OF BULK AT MOST 1048576: true; the input reads as it did. -/
def mendTrueUptoRow : OpenClaim := { program := "ytcgkglonnmkfcaa", sum := "d3a7291afd1e204f3ea7613d86029feeae11ba1ea8958509edb980cf1619ee9f", func := "lapworks/lapworkslaw10.MendTrue", spec := "mendTrue", unfollowed := true, recurses := true, plainKeys := false, apart := false, narrowed := true }
def MendTrueUptoSaid : Prop := mendTrueUptoRow.holds Try.pinned (OpenSpec.upto mendTrueSpec)

/-- 'lapworkslaw10.MendEnds', WHERE WHAT IT READS IS OF BULK AT MOST 1048576: true; the input reads as it did. -/
def mendEndsUptoRow : OpenClaim := { program := "ytcgkglonnmkfcaa", sum := "d3a7291afd1e204f3ea7613d86029feeae11ba1ea8958509edb980cf1619ee9f", func := "lapworks/lapworkslaw10.MendEnds", spec := "mendEnds", unfollowed := true, recurses := true, plainKeys := false, apart := false, narrowed := true }
def MendEndsUptoSaid : Prop := mendEndsUptoRow.holds Try.pinned (OpenSpec.upto mendEndsSpec)

/-- 'lapworkslaw10.MendBest', WHERE WHAT IT READS IS OF BULK AT MOST 1048576: true; the input reads as it did. -/
def mendBestUptoRow : OpenClaim := { program := "ytcgkglonnmkfcaa", sum := "d3a7291afd1e204f3ea7613d86029feeae11ba1ea8958509edb980cf1619ee9f", func := "lapworks/lapworkslaw10.MendBest", spec := "mendBest", unfollowed := true, recurses := true, plainKeys := false, apart := false, narrowed := true }
def MendBestUptoSaid : Prop := mendBestUptoRow.holds Try.pinned (OpenSpec.upto mendBestSpec)

/-- 'lapworkslaw10.MendSlack', WHERE WHAT IT READS IS OF BULK AT MOST 1048576: true; the input reads as it did. -/
def mendSlackUptoRow : OpenClaim := { program := "ytcgkglonnmkfcaa", sum := "d3a7291afd1e204f3ea7613d86029feeae11ba1ea8958509edb980cf1619ee9f", func := "lapworks/lapworkslaw10.MendSlack", spec := "mendSlack", unfollowed := true, recurses := true, plainKeys := false, apart := false, narrowed := true }
def MendSlackUptoSaid : Prop := mendSlackUptoRow.holds Try.pinned (OpenSpec.upto mendSlackSpec)

/-- 'lapworkslaw10.MendDrop', WHERE WHAT IT READS IS OF BULK AT MOST 1048576: true; the input reads as it did. -/
def mendDropUptoRow : OpenClaim := { program := "ytcgkglonnmkfcaa", sum := "d3a7291afd1e204f3ea7613d86029feeae11ba1ea8958509edb980cf1619ee9f", func := "lapworks/lapworkslaw10.MendDrop", spec := "mendDrop", unfollowed := true, recurses := true, plainKeys := false, apart := false, narrowed := true }
def MendDropUptoSaid : Prop := mendDropUptoRow.holds Try.pinned (OpenSpec.upto mendDropSpec)

/-- 'lapworkslaw10.MendMore', WHERE WHAT IT READS IS OF BULK AT MOST 1048576: true; the input reads as it did. -/
def mendMoreUptoRow : OpenClaim := { program := "ytcgkglonnmkfcaa", sum := "d3a7291afd1e204f3ea7613d86029feeae11ba1ea8958509edb980cf1619ee9f", func := "lapworks/lapworkslaw10.MendMore", spec := "mendMore", unfollowed := true, recurses := true, plainKeys := false, apart := false, narrowed := true }
def MendMoreUptoSaid : Prop := mendMoreUptoRow.holds Try.pinned (OpenSpec.upto mendMoreSpec)

/-- 'lapworkslaw10.MendTurned', WHERE WHAT IT READS IS OF BULK AT MOST 1048576: true; the input reads as it did. -/
def mendTurnedUptoRow : OpenClaim := { program := "ytcgkglonnmkfcaa", sum := "d3a7291afd1e204f3ea7613d86029feeae11ba1ea8958509edb980cf1619ee9f", func := "lapworks/lapworkslaw10.MendTurned", spec := "mendTurned", unfollowed := true, recurses := true, plainKeys := false, apart := false, narrowed := true }
def MendTurnedUptoSaid : Prop := mendTurnedUptoRow.holds Try.pinned (OpenSpec.upto mendTurnedSpec)

end Rows
end Go.Proofs.Ytcgkglonnmkfcaa
