/-
  No cell of these rows narrows 'for every input' (looked for: loops, veiled, ifaces, maps, wideKeys, modest, calm, conditions, laid).
  DERIVED. THE GIVEN ROWS OF THIS SEAT. 12 by the template 'for every input the law returns true; each argument reads behind the call as it read before'; 0 by the template 'total and deterministic' (their statements: YtlcaadjlghbcpaaTotals.lean).
  GIVEN WITH THE SEED: the statements are not yours to turn. If you find one false, say at which input.
  Laid BY PROGRAM, IN A SANDBOX (cutbox-rows.mjs): the forced cells as the released guide's own fill.sh prints them over the translation 27763143668b6ccd… (all of the seat's roots in one cut). By AI agents, Wed Nov 11 2026. No macro, syntax, notation, axiom, sorry.
-/
import Derived.Test.YtlcaadjlghbcpaaChecked
import GoSem.Claim
import GoSem.ClaimJoined
import GoSem.ClaimMapViews
import Derived.JoinedTies
import Derived.KernelRfl
namespace Go.Proofs.Ytlcaadjlghbcpaa
/- THE CELL 'sum', in the pinned program and in every row, IS THE sha256 OF THE DUMP (.gsa) THAT YtlcaadjlghbcpaaProg.lean LOADS. Nothing in Lean hashes anything: it is a label: what it is worth is what the hold of that sum in a sandbox is worth. -/
noncomputable def Try.pinned : Pinned := { name := "ytlcaadjlghbcpaa", sum := "27763143668b6ccdfc101f991417f4aee05f509c150329387606979f2871182e", checked := Try.checked }
namespace Rows
def none {H : Type} : Left H := { results := [], args := [] }

/-- 'laws.FnDoConflict': WHATEVER THE INPUT: true; the input reads as it did. -/
def fnDoConflictSpec : ChangeSpec := { name := "fnDoConflict", fn := fun _ => fun
  | [d] => { results := [.lit (.bool true)], args := [d] }
  | _ => none }
def fnDoConflictRow : OpenClaim := { program := "ytlcaadjlghbcpaa", sum := "27763143668b6ccdfc101f991417f4aee05f509c150329387606979f2871182e", func := "loop.example/transactionorders/laws.FnDoConflict", spec := "fnDoConflict", apart := false }
def FnDoConflictSaid : Prop := fnDoConflictRow.holds Try.pinned (OpenSpec.ofChange fnDoConflictSpec)

/-- ITS FALSE NEIGHBOUR: 'it returns false'. Refute it at one input. -/
def fnDoConflictWrong : ChangeSpec := { name := "fnDoConflict", fn := fun _ => fun
  | [d] => { results := [.lit (.bool false)], args := [d] }
  | _ => none }
def FnDoConflictWrongFalsely : Prop := fnDoConflictRow.holds Try.pinned (OpenSpec.ofChange fnDoConflictWrong)

/-- 'laws.FnValidSchedule': WHATEVER THE INPUT: true; the input reads as it did. -/
def fnValidScheduleSpec : ChangeSpec := { name := "fnValidSchedule", fn := fun _ => fun
  | [d] => { results := [.lit (.bool true)], args := [d] }
  | _ => none }
def fnValidScheduleRow : OpenClaim := { program := "ytlcaadjlghbcpaa", sum := "27763143668b6ccdfc101f991417f4aee05f509c150329387606979f2871182e", func := "loop.example/transactionorders/laws.FnValidSchedule", spec := "fnValidSchedule", unfollowed := true, recurses := true, apart := false }
def FnValidScheduleSaid : Prop := fnValidScheduleRow.holds Try.pinned (OpenSpec.ofChange fnValidScheduleSpec)

/-- ITS FALSE NEIGHBOUR: 'it returns false'. Refute it at one input. -/
def fnValidScheduleWrong : ChangeSpec := { name := "fnValidSchedule", fn := fun _ => fun
  | [d] => { results := [.lit (.bool false)], args := [d] }
  | _ => none }
def FnValidScheduleWrongFalsely : Prop := fnValidScheduleRow.holds Try.pinned (OpenSpec.ofChange fnValidScheduleWrong)

/-- 'laws.FnEndOf': WHATEVER THE INPUT: true; the input reads as it did. -/
def fnEndOfSpec : ChangeSpec := { name := "fnEndOf", fn := fun _ => fun
  | [d] => { results := [.lit (.bool true)], args := [d] }
  | _ => none }
def fnEndOfRow : OpenClaim := { program := "ytlcaadjlghbcpaa", sum := "27763143668b6ccdfc101f991417f4aee05f509c150329387606979f2871182e", func := "loop.example/transactionorders/laws.FnEndOf", spec := "fnEndOf", unfollowed := true, recurses := true, apart := false }
def FnEndOfSaid : Prop := fnEndOfRow.holds Try.pinned (OpenSpec.ofChange fnEndOfSpec)

/-- ITS FALSE NEIGHBOUR: 'it returns false'. Refute it at one input. -/
def fnEndOfWrong : ChangeSpec := { name := "fnEndOf", fn := fun _ => fun
  | [d] => { results := [.lit (.bool false)], args := [d] }
  | _ => none }
def FnEndOfWrongFalsely : Prop := fnEndOfRow.holds Try.pinned (OpenSpec.ofChange fnEndOfWrong)

/-- 'laws.FnCommittedOf': WHATEVER THE INPUT: true; the input reads as it did. -/
def fnCommittedOfSpec : ChangeSpec := { name := "fnCommittedOf", fn := fun _ => fun
  | [d] => { results := [.lit (.bool true)], args := [d] }
  | _ => none }
def fnCommittedOfRow : OpenClaim := { program := "ytlcaadjlghbcpaa", sum := "27763143668b6ccdfc101f991417f4aee05f509c150329387606979f2871182e", func := "loop.example/transactionorders/laws.FnCommittedOf", spec := "fnCommittedOf", unfollowed := true, recurses := true, apart := false }
def FnCommittedOfSaid : Prop := fnCommittedOfRow.holds Try.pinned (OpenSpec.ofChange fnCommittedOfSpec)

/-- ITS FALSE NEIGHBOUR: 'it returns false'. Refute it at one input. -/
def fnCommittedOfWrong : ChangeSpec := { name := "fnCommittedOf", fn := fun _ => fun
  | [d] => { results := [.lit (.bool false)], args := [d] }
  | _ => none }
def FnCommittedOfWrongFalsely : Prop := fnCommittedOfRow.holds Try.pinned (OpenSpec.ofChange fnCommittedOfWrong)

/-- 'laws.FnTxsOf': WHATEVER THE INPUT: true; the input reads as it did. -/
def fnTxsOfSpec : ChangeSpec := { name := "fnTxsOf", fn := fun _ => fun
  | [d] => { results := [.lit (.bool true)], args := [d] }
  | _ => none }
def fnTxsOfRow : OpenClaim := { program := "ytlcaadjlghbcpaa", sum := "27763143668b6ccdfc101f991417f4aee05f509c150329387606979f2871182e", func := "loop.example/transactionorders/laws.FnTxsOf", spec := "fnTxsOf", unfollowed := true, recurses := true, apart := false }
def FnTxsOfSaid : Prop := fnTxsOfRow.holds Try.pinned (OpenSpec.ofChange fnTxsOfSpec)

/-- ITS FALSE NEIGHBOUR: 'it returns false'. Refute it at one input. -/
def fnTxsOfWrong : ChangeSpec := { name := "fnTxsOf", fn := fun _ => fun
  | [d] => { results := [.lit (.bool false)], args := [d] }
  | _ => none }
def FnTxsOfWrongFalsely : Prop := fnTxsOfRow.holds Try.pinned (OpenSpec.ofChange fnTxsOfWrong)

/-- 'laws.FnOpsOf': WHATEVER THE INPUT: true; the input reads as it did. -/
def fnOpsOfSpec : ChangeSpec := { name := "fnOpsOf", fn := fun _ => fun
  | [d] => { results := [.lit (.bool true)], args := [d] }
  | _ => none }
def fnOpsOfRow : OpenClaim := { program := "ytlcaadjlghbcpaa", sum := "27763143668b6ccdfc101f991417f4aee05f509c150329387606979f2871182e", func := "loop.example/transactionorders/laws.FnOpsOf", spec := "fnOpsOf", unfollowed := true, recurses := true, apart := false }
def FnOpsOfSaid : Prop := fnOpsOfRow.holds Try.pinned (OpenSpec.ofChange fnOpsOfSpec)

/-- ITS FALSE NEIGHBOUR: 'it returns false'. Refute it at one input. -/
def fnOpsOfWrong : ChangeSpec := { name := "fnOpsOf", fn := fun _ => fun
  | [d] => { results := [.lit (.bool false)], args := [d] }
  | _ => none }
def FnOpsOfWrongFalsely : Prop := fnOpsOfRow.holds Try.pinned (OpenSpec.ofChange fnOpsOfWrong)

/-- 'laws.FnReadsOf': WHATEVER THE INPUT: true; the input reads as it did. -/
def fnReadsOfSpec : ChangeSpec := { name := "fnReadsOf", fn := fun _ => fun
  | [d] => { results := [.lit (.bool true)], args := [d] }
  | _ => none }
def fnReadsOfRow : OpenClaim := { program := "ytlcaadjlghbcpaa", sum := "27763143668b6ccdfc101f991417f4aee05f509c150329387606979f2871182e", func := "loop.example/transactionorders/laws.FnReadsOf", spec := "fnReadsOf", apart := false }
def FnReadsOfSaid : Prop := fnReadsOfRow.holds Try.pinned (OpenSpec.ofChange fnReadsOfSpec)

/-- ITS FALSE NEIGHBOUR: 'it returns false'. Refute it at one input. -/
def fnReadsOfWrong : ChangeSpec := { name := "fnReadsOf", fn := fun _ => fun
  | [d] => { results := [.lit (.bool false)], args := [d] }
  | _ => none }
def FnReadsOfWrongFalsely : Prop := fnReadsOfRow.holds Try.pinned (OpenSpec.ofChange fnReadsOfWrong)

/-- 'laws.FnFinalsOf': WHATEVER THE INPUT: true; the input reads as it did. -/
def fnFinalsOfSpec : ChangeSpec := { name := "fnFinalsOf", fn := fun _ => fun
  | [d] => { results := [.lit (.bool true)], args := [d] }
  | _ => none }
def fnFinalsOfRow : OpenClaim := { program := "ytlcaadjlghbcpaa", sum := "27763143668b6ccdfc101f991417f4aee05f509c150329387606979f2871182e", func := "loop.example/transactionorders/laws.FnFinalsOf", spec := "fnFinalsOf", apart := false }
def FnFinalsOfSaid : Prop := fnFinalsOfRow.holds Try.pinned (OpenSpec.ofChange fnFinalsOfSpec)

/-- ITS FALSE NEIGHBOUR: 'it returns false'. Refute it at one input. -/
def fnFinalsOfWrong : ChangeSpec := { name := "fnFinalsOf", fn := fun _ => fun
  | [d] => { results := [.lit (.bool false)], args := [d] }
  | _ => none }
def FnFinalsOfWrongFalsely : Prop := fnFinalsOfRow.holds Try.pinned (OpenSpec.ofChange fnFinalsOfWrong)

/-- 'laws.FnCompleted': WHATEVER THE INPUT: true; the input reads as it did. -/
def fnCompletedSpec : ChangeSpec := { name := "fnCompleted", fn := fun _ => fun
  | [d] => { results := [.lit (.bool true)], args := [d] }
  | _ => none }
def fnCompletedRow : OpenClaim := { program := "ytlcaadjlghbcpaa", sum := "27763143668b6ccdfc101f991417f4aee05f509c150329387606979f2871182e", func := "loop.example/transactionorders/laws.FnCompleted", spec := "fnCompleted", unfollowed := true, recurses := true, apart := false }
def FnCompletedSaid : Prop := fnCompletedRow.holds Try.pinned (OpenSpec.ofChange fnCompletedSpec)

/-- ITS FALSE NEIGHBOUR: 'it returns false'. Refute it at one input. -/
def fnCompletedWrong : ChangeSpec := { name := "fnCompleted", fn := fun _ => fun
  | [d] => { results := [.lit (.bool false)], args := [d] }
  | _ => none }
def FnCompletedWrongFalsely : Prop := fnCompletedRow.holds Try.pinned (OpenSpec.ofChange fnCompletedWrong)

/-- 'laws.FnExactCompleted': WHATEVER THE INPUT: true; the input reads as it did. -/
def fnExactCompletedSpec : ChangeSpec := { name := "fnExactCompleted", fn := fun _ => fun
  | [d] => { results := [.lit (.bool true)], args := [d] }
  | _ => none }
def fnExactCompletedRow : OpenClaim := { program := "ytlcaadjlghbcpaa", sum := "27763143668b6ccdfc101f991417f4aee05f509c150329387606979f2871182e", func := "loop.example/transactionorders/laws.FnExactCompleted", spec := "fnExactCompleted", unfollowed := true, recurses := true, apart := false }
def FnExactCompletedSaid : Prop := fnExactCompletedRow.holds Try.pinned (OpenSpec.ofChange fnExactCompletedSpec)

/-- ITS FALSE NEIGHBOUR: 'it returns false'. Refute it at one input. -/
def fnExactCompletedWrong : ChangeSpec := { name := "fnExactCompleted", fn := fun _ => fun
  | [d] => { results := [.lit (.bool false)], args := [d] }
  | _ => none }
def FnExactCompletedWrongFalsely : Prop := fnExactCompletedRow.holds Try.pinned (OpenSpec.ofChange fnExactCompletedWrong)

/-- 'laws.FnConflictsOf': WHATEVER THE INPUT: true; the input reads as it did. -/
def fnConflictsOfSpec : ChangeSpec := { name := "fnConflictsOf", fn := fun _ => fun
  | [d] => { results := [.lit (.bool true)], args := [d] }
  | _ => none }
def fnConflictsOfRow : OpenClaim := { program := "ytlcaadjlghbcpaa", sum := "27763143668b6ccdfc101f991417f4aee05f509c150329387606979f2871182e", func := "loop.example/transactionorders/laws.FnConflictsOf", spec := "fnConflictsOf", unfollowed := true, recurses := true, apart := false }
def FnConflictsOfSaid : Prop := fnConflictsOfRow.holds Try.pinned (OpenSpec.ofChange fnConflictsOfSpec)

/-- ITS FALSE NEIGHBOUR: 'it returns false'. Refute it at one input. -/
def fnConflictsOfWrong : ChangeSpec := { name := "fnConflictsOf", fn := fun _ => fun
  | [d] => { results := [.lit (.bool false)], args := [d] }
  | _ => none }
def FnConflictsOfWrongFalsely : Prop := fnConflictsOfRow.holds Try.pinned (OpenSpec.ofChange fnConflictsOfWrong)

/-- 'laws.FnExactConflictsOf': WHATEVER THE INPUT: true; the input reads as it did. -/
def fnExactConflictsOfSpec : ChangeSpec := { name := "fnExactConflictsOf", fn := fun _ => fun
  | [d] => { results := [.lit (.bool true)], args := [d] }
  | _ => none }
def fnExactConflictsOfRow : OpenClaim := { program := "ytlcaadjlghbcpaa", sum := "27763143668b6ccdfc101f991417f4aee05f509c150329387606979f2871182e", func := "loop.example/transactionorders/laws.FnExactConflictsOf", spec := "fnExactConflictsOf", apart := false }
def FnExactConflictsOfSaid : Prop := fnExactConflictsOfRow.holds Try.pinned (OpenSpec.ofChange fnExactConflictsOfSpec)

/-- ITS FALSE NEIGHBOUR: 'it returns false'. Refute it at one input. -/
def fnExactConflictsOfWrong : ChangeSpec := { name := "fnExactConflictsOf", fn := fun _ => fun
  | [d] => { results := [.lit (.bool false)], args := [d] }
  | _ => none }
def FnExactConflictsOfWrongFalsely : Prop := fnExactConflictsOfRow.holds Try.pinned (OpenSpec.ofChange fnExactConflictsOfWrong)

/- THE SECOND FORM. 'bulk': how many values and letters a reading holds, each counted each time it is reached (what is shared counts as often as it is met; a slice's spare places count too). A statement '..UptoSaid' is the law's where the arguments, and the package variables that the reading takes, are together of bulk at most 1048576: NARROWER than '..Said'. Prove '..Said' where nothing that the law and all that it calls make is longer than what came in: it says more and counts as full. Else prove '..UptoSaid'. A law counts once. -/
mutual
def uptoBulk {H : Type} : DataW H → Nat
  | .lit (.string bytes) => bytes.length + 1
  | .lit _ => 1
  | .nil => 1
  | .ptr d => uptoBulk d + 1
  | .slice elems spare => uptoBulkAll elems + uptoBulkAll spare + 1
  | .agg parts => uptoBulkAll parts + 1
  | .iface _ d => uptoBulk d + 1
  | .map entries => uptoBulkEntries entries + 1
  | .held _ => 1
def uptoBulkAll {H : Type} : List (DataW H) → Nat
  | [] => 0
  | d :: r => uptoBulk d + uptoBulkAll r
def uptoBulkEntries {H : Type} : List (Lit × DataW H) → Nat
  | [] => 0
  | x :: r => uptoBulkEntry x + uptoBulkEntries r
def uptoBulkEntry {H : Type} : Lit × DataW H → Nat
  | (.string bytes, d) => bytes.length + uptoBulk d + 1
  | (_, d) => uptoBulk d + 1
 end
def uptoSmall : (H : Type) → List (DataW H) → Bool := fun _ ds => decide (uptoBulkAll ds ≤ 1048576)
def OpenSpec.upto (s : _root_.Go.ChangeSpec) : _root_.Go.OpenSpec := { _root_.Go.OpenSpec.ofChange s with cond := some uptoSmall }

/-- 'laws.FnDoConflict', WHERE WHAT IT READS IS OF BULK AT MOST 1048576: true; the input reads as it did. -/
def fnDoConflictUptoRow : OpenClaim := { program := "ytlcaadjlghbcpaa", sum := "27763143668b6ccdfc101f991417f4aee05f509c150329387606979f2871182e", func := "loop.example/transactionorders/laws.FnDoConflict", spec := "fnDoConflict", apart := false, narrowed := true }
def FnDoConflictUptoSaid : Prop := fnDoConflictUptoRow.holds Try.pinned (OpenSpec.upto fnDoConflictSpec)

/-- 'laws.FnValidSchedule', WHERE WHAT IT READS IS OF BULK AT MOST 1048576: true; the input reads as it did. -/
def fnValidScheduleUptoRow : OpenClaim := { program := "ytlcaadjlghbcpaa", sum := "27763143668b6ccdfc101f991417f4aee05f509c150329387606979f2871182e", func := "loop.example/transactionorders/laws.FnValidSchedule", spec := "fnValidSchedule", unfollowed := true, recurses := true, apart := false, narrowed := true }
def FnValidScheduleUptoSaid : Prop := fnValidScheduleUptoRow.holds Try.pinned (OpenSpec.upto fnValidScheduleSpec)

/-- 'laws.FnEndOf', WHERE WHAT IT READS IS OF BULK AT MOST 1048576: true; the input reads as it did. -/
def fnEndOfUptoRow : OpenClaim := { program := "ytlcaadjlghbcpaa", sum := "27763143668b6ccdfc101f991417f4aee05f509c150329387606979f2871182e", func := "loop.example/transactionorders/laws.FnEndOf", spec := "fnEndOf", unfollowed := true, recurses := true, apart := false, narrowed := true }
def FnEndOfUptoSaid : Prop := fnEndOfUptoRow.holds Try.pinned (OpenSpec.upto fnEndOfSpec)

/-- 'laws.FnCommittedOf', WHERE WHAT IT READS IS OF BULK AT MOST 1048576: true; the input reads as it did. -/
def fnCommittedOfUptoRow : OpenClaim := { program := "ytlcaadjlghbcpaa", sum := "27763143668b6ccdfc101f991417f4aee05f509c150329387606979f2871182e", func := "loop.example/transactionorders/laws.FnCommittedOf", spec := "fnCommittedOf", unfollowed := true, recurses := true, apart := false, narrowed := true }
def FnCommittedOfUptoSaid : Prop := fnCommittedOfUptoRow.holds Try.pinned (OpenSpec.upto fnCommittedOfSpec)

/-- 'laws.FnTxsOf', WHERE WHAT IT READS IS OF BULK AT MOST 1048576: true; the input reads as it did. -/
def fnTxsOfUptoRow : OpenClaim := { program := "ytlcaadjlghbcpaa", sum := "27763143668b6ccdfc101f991417f4aee05f509c150329387606979f2871182e", func := "loop.example/transactionorders/laws.FnTxsOf", spec := "fnTxsOf", unfollowed := true, recurses := true, apart := false, narrowed := true }
def FnTxsOfUptoSaid : Prop := fnTxsOfUptoRow.holds Try.pinned (OpenSpec.upto fnTxsOfSpec)

/-- 'laws.FnOpsOf', WHERE WHAT IT READS IS OF BULK AT MOST 1048576: true; the input reads as it did. -/
def fnOpsOfUptoRow : OpenClaim := { program := "ytlcaadjlghbcpaa", sum := "27763143668b6ccdfc101f991417f4aee05f509c150329387606979f2871182e", func := "loop.example/transactionorders/laws.FnOpsOf", spec := "fnOpsOf", unfollowed := true, recurses := true, apart := false, narrowed := true }
def FnOpsOfUptoSaid : Prop := fnOpsOfUptoRow.holds Try.pinned (OpenSpec.upto fnOpsOfSpec)

/-- 'laws.FnReadsOf', WHERE WHAT IT READS IS OF BULK AT MOST 1048576: true; the input reads as it did. -/
def fnReadsOfUptoRow : OpenClaim := { program := "ytlcaadjlghbcpaa", sum := "27763143668b6ccdfc101f991417f4aee05f509c150329387606979f2871182e", func := "loop.example/transactionorders/laws.FnReadsOf", spec := "fnReadsOf", apart := false, narrowed := true }
def FnReadsOfUptoSaid : Prop := fnReadsOfUptoRow.holds Try.pinned (OpenSpec.upto fnReadsOfSpec)

/-- 'laws.FnFinalsOf', WHERE WHAT IT READS IS OF BULK AT MOST 1048576: true; the input reads as it did. -/
def fnFinalsOfUptoRow : OpenClaim := { program := "ytlcaadjlghbcpaa", sum := "27763143668b6ccdfc101f991417f4aee05f509c150329387606979f2871182e", func := "loop.example/transactionorders/laws.FnFinalsOf", spec := "fnFinalsOf", apart := false, narrowed := true }
def FnFinalsOfUptoSaid : Prop := fnFinalsOfUptoRow.holds Try.pinned (OpenSpec.upto fnFinalsOfSpec)

/-- 'laws.FnCompleted', WHERE WHAT IT READS IS OF BULK AT MOST 1048576: true; the input reads as it did. -/
def fnCompletedUptoRow : OpenClaim := { program := "ytlcaadjlghbcpaa", sum := "27763143668b6ccdfc101f991417f4aee05f509c150329387606979f2871182e", func := "loop.example/transactionorders/laws.FnCompleted", spec := "fnCompleted", unfollowed := true, recurses := true, apart := false, narrowed := true }
def FnCompletedUptoSaid : Prop := fnCompletedUptoRow.holds Try.pinned (OpenSpec.upto fnCompletedSpec)

/-- 'laws.FnExactCompleted', WHERE WHAT IT READS IS OF BULK AT MOST 1048576: true; the input reads as it did. -/
def fnExactCompletedUptoRow : OpenClaim := { program := "ytlcaadjlghbcpaa", sum := "27763143668b6ccdfc101f991417f4aee05f509c150329387606979f2871182e", func := "loop.example/transactionorders/laws.FnExactCompleted", spec := "fnExactCompleted", unfollowed := true, recurses := true, apart := false, narrowed := true }
def FnExactCompletedUptoSaid : Prop := fnExactCompletedUptoRow.holds Try.pinned (OpenSpec.upto fnExactCompletedSpec)

/-- 'laws.FnConflictsOf', WHERE WHAT IT READS IS OF BULK AT MOST 1048576: true; the input reads as it did. -/
def fnConflictsOfUptoRow : OpenClaim := { program := "ytlcaadjlghbcpaa", sum := "27763143668b6ccdfc101f991417f4aee05f509c150329387606979f2871182e", func := "loop.example/transactionorders/laws.FnConflictsOf", spec := "fnConflictsOf", unfollowed := true, recurses := true, apart := false, narrowed := true }
def FnConflictsOfUptoSaid : Prop := fnConflictsOfUptoRow.holds Try.pinned (OpenSpec.upto fnConflictsOfSpec)

/-- 'laws.FnExactConflictsOf', WHERE WHAT IT READS IS OF BULK AT MOST 1048576: true; the input reads as it did. -/
def fnExactConflictsOfUptoRow : OpenClaim := { program := "ytlcaadjlghbcpaa", sum := "27763143668b6ccdfc101f991417f4aee05f509c150329387606979f2871182e", func := "loop.example/transactionorders/laws.FnExactConflictsOf", spec := "fnExactConflictsOf", apart := false, narrowed := true }
def FnExactConflictsOfUptoSaid : Prop := fnExactConflictsOfUptoRow.holds Try.pinned (OpenSpec.upto fnExactConflictsOfSpec)

end Rows
end Go.Proofs.Ytlcaadjlghbcpaa
