/-
  No cell of these rows narrows 'for every input' (looked for: loops, veiled, ifaces, maps, wideKeys, modest, calm, conditions, laid).
  DERIVED. THE GIVEN ROWS OF THIS SEAT. 12 by the template 'for every input the law returns true; each argument reads behind the call as it read before'; 0 by the template 'total and deterministic' (their statements: YtgoedkdpanoggaaTotals.lean).
  GIVEN WITH THE SEED: the statements are not yours to turn. If you find one false, say at which input.
  Laid BY PROGRAM, IN A SANDBOX (cutbox-rows.mjs): the forced cells as the released guide's own fill.sh prints them over the translation 2bb3bbcb6a8bd01d… (all of the seat's roots in one cut). By AI agents, Wed Nov 11 2026. No macro, syntax, notation, axiom, sorry.
-/
import Derived.Test.YtgoedkdpanoggaaChecked
import GoSem.Claim
import GoSem.ClaimJoined
import GoSem.ClaimMapViews
import Derived.JoinedTies
import Derived.KernelRfl
namespace Go.Proofs.Ytgoedkdpanoggaa
/- THE CELL 'sum', in the pinned program and in every row, IS THE sha256 OF THE DUMP (.gsa) THAT YtgoedkdpanoggaaProg.lean LOADS. Nothing in Lean hashes anything: it is a label: what it is worth is what the hold of that sum in a sandbox is worth. -/
noncomputable def Try.pinned : Pinned := { name := "ytgoedkdpanoggaa", sum := "2bb3bbcb6a8bd01d514818c99015c61eff495d2690f5b6d09fa3e43f85101ad0", checked := Try.checked }
namespace Rows
def none {H : Type} : Left H := { results := [], args := [] }

/-- 'laws.FnExactValidSchedule': WHATEVER THE INPUT: true; the input reads as it did. -/
def fnExactValidScheduleSpec : ChangeSpec := { name := "fnExactValidSchedule", fn := fun _ => fun
  | [d] => { results := [.lit (.bool true)], args := [d] }
  | _ => none }
def fnExactValidScheduleRow : OpenClaim := { program := "ytgoedkdpanoggaa", sum := "2bb3bbcb6a8bd01d514818c99015c61eff495d2690f5b6d09fa3e43f85101ad0", func := "loop.example/transactionorders/laws.FnExactValidSchedule", spec := "fnExactValidSchedule", apart := false }
def FnExactValidScheduleSaid : Prop := fnExactValidScheduleRow.holds Try.pinned (OpenSpec.ofChange fnExactValidScheduleSpec)

/-- ITS FALSE NEIGHBOUR: 'it returns false'. Refute it at one input. -/
def fnExactValidScheduleWrong : ChangeSpec := { name := "fnExactValidSchedule", fn := fun _ => fun
  | [d] => { results := [.lit (.bool false)], args := [d] }
  | _ => none }
def FnExactValidScheduleWrongFalsely : Prop := fnExactValidScheduleRow.holds Try.pinned (OpenSpec.ofChange fnExactValidScheduleWrong)

/-- 'laws.FnExactEndOf': WHATEVER THE INPUT: true; the input reads as it did. -/
def fnExactEndOfSpec : ChangeSpec := { name := "fnExactEndOf", fn := fun _ => fun
  | [d1, d2] => { results := [.lit (.bool true)], args := [d1, d2] }
  | _ => none }
def fnExactEndOfRow : OpenClaim := { program := "ytgoedkdpanoggaa", sum := "2bb3bbcb6a8bd01d514818c99015c61eff495d2690f5b6d09fa3e43f85101ad0", func := "loop.example/transactionorders/laws.FnExactEndOf", spec := "fnExactEndOf", apart := false }
def FnExactEndOfSaid : Prop := fnExactEndOfRow.holds Try.pinned (OpenSpec.ofChange fnExactEndOfSpec)

/-- ITS FALSE NEIGHBOUR: 'it returns false'. Refute it at one input. -/
def fnExactEndOfWrong : ChangeSpec := { name := "fnExactEndOf", fn := fun _ => fun
  | [d1, d2] => { results := [.lit (.bool false)], args := [d1, d2] }
  | _ => none }
def FnExactEndOfWrongFalsely : Prop := fnExactEndOfRow.holds Try.pinned (OpenSpec.ofChange fnExactEndOfWrong)

/-- 'laws.FnExactIsSerial': WHATEVER THE INPUT: true; the input reads as it did. -/
def fnExactIsSerialSpec : ChangeSpec := { name := "fnExactIsSerial", fn := fun _ => fun
  | [d] => { results := [.lit (.bool true)], args := [d] }
  | _ => none }
def fnExactIsSerialRow : OpenClaim := { program := "ytgoedkdpanoggaa", sum := "2bb3bbcb6a8bd01d514818c99015c61eff495d2690f5b6d09fa3e43f85101ad0", func := "loop.example/transactionorders/laws.FnExactIsSerial", spec := "fnExactIsSerial", unfollowed := true, recurses := true, apart := false }
def FnExactIsSerialSaid : Prop := fnExactIsSerialRow.holds Try.pinned (OpenSpec.ofChange fnExactIsSerialSpec)

/-- ITS FALSE NEIGHBOUR: 'it returns false'. Refute it at one input. -/
def fnExactIsSerialWrong : ChangeSpec := { name := "fnExactIsSerial", fn := fun _ => fun
  | [d] => { results := [.lit (.bool false)], args := [d] }
  | _ => none }
def FnExactIsSerialWrongFalsely : Prop := fnExactIsSerialRow.holds Try.pinned (OpenSpec.ofChange fnExactIsSerialWrong)

/-- 'laws.FnExactOpsOf': WHATEVER THE INPUT: true; the input reads as it did. -/
def fnExactOpsOfSpec : ChangeSpec := { name := "fnExactOpsOf", fn := fun _ => fun
  | [d1, d2] => { results := [.lit (.bool true)], args := [d1, d2] }
  | _ => none }
def fnExactOpsOfRow : OpenClaim := { program := "ytgoedkdpanoggaa", sum := "2bb3bbcb6a8bd01d514818c99015c61eff495d2690f5b6d09fa3e43f85101ad0", func := "loop.example/transactionorders/laws.FnExactOpsOf", spec := "fnExactOpsOf", unfollowed := true, recurses := true, apart := false }
def FnExactOpsOfSaid : Prop := fnExactOpsOfRow.holds Try.pinned (OpenSpec.ofChange fnExactOpsOfSpec)

/-- ITS FALSE NEIGHBOUR: 'it returns false'. Refute it at one input. -/
def fnExactOpsOfWrong : ChangeSpec := { name := "fnExactOpsOf", fn := fun _ => fun
  | [d1, d2] => { results := [.lit (.bool false)], args := [d1, d2] }
  | _ => none }
def FnExactOpsOfWrongFalsely : Prop := fnExactOpsOfRow.holds Try.pinned (OpenSpec.ofChange fnExactOpsOfWrong)

/-- 'laws.FnExactSwapAt': WHATEVER THE INPUT: true; the input reads as it did. -/
def fnExactSwapAtSpec : ChangeSpec := { name := "fnExactSwapAt", fn := fun _ => fun
  | [d1, d2] => { results := [.lit (.bool true)], args := [d1, d2] }
  | _ => none }
def fnExactSwapAtRow : OpenClaim := { program := "ytgoedkdpanoggaa", sum := "2bb3bbcb6a8bd01d514818c99015c61eff495d2690f5b6d09fa3e43f85101ad0", func := "loop.example/transactionorders/laws.FnExactSwapAt", spec := "fnExactSwapAt", apart := false }
def FnExactSwapAtSaid : Prop := fnExactSwapAtRow.holds Try.pinned (OpenSpec.ofChange fnExactSwapAtSpec)

/-- ITS FALSE NEIGHBOUR: 'it returns false'. Refute it at one input. -/
def fnExactSwapAtWrong : ChangeSpec := { name := "fnExactSwapAt", fn := fun _ => fun
  | [d1, d2] => { results := [.lit (.bool false)], args := [d1, d2] }
  | _ => none }
def FnExactSwapAtWrongFalsely : Prop := fnExactSwapAtRow.holds Try.pinned (OpenSpec.ofChange fnExactSwapAtWrong)

/-- 'laws.FnExactHasBlind': WHATEVER THE INPUT: true; the input reads as it did. -/
def fnExactHasBlindSpec : ChangeSpec := { name := "fnExactHasBlind", fn := fun _ => fun
  | [d] => { results := [.lit (.bool true)], args := [d] }
  | _ => none }
def fnExactHasBlindRow : OpenClaim := { program := "ytgoedkdpanoggaa", sum := "2bb3bbcb6a8bd01d514818c99015c61eff495d2690f5b6d09fa3e43f85101ad0", func := "loop.example/transactionorders/laws.FnExactHasBlind", spec := "fnExactHasBlind", unfollowed := true, recurses := true, apart := false }
def FnExactHasBlindSaid : Prop := fnExactHasBlindRow.holds Try.pinned (OpenSpec.ofChange fnExactHasBlindSpec)

/-- ITS FALSE NEIGHBOUR: 'it returns false'. Refute it at one input. -/
def fnExactHasBlindWrong : ChangeSpec := { name := "fnExactHasBlind", fn := fun _ => fun
  | [d] => { results := [.lit (.bool false)], args := [d] }
  | _ => none }
def FnExactHasBlindWrongFalsely : Prop := fnExactHasBlindRow.holds Try.pinned (OpenSpec.ofChange fnExactHasBlindWrong)

/-- 'laws.FnExactCommittedOf': WHATEVER THE INPUT: true; the input reads as it did. -/
def fnExactCommittedOfSpec : ChangeSpec := { name := "fnExactCommittedOf", fn := fun _ => fun
  | [d] => { results := [.lit (.bool true)], args := [d] }
  | _ => none }
def fnExactCommittedOfRow : OpenClaim := { program := "ytgoedkdpanoggaa", sum := "2bb3bbcb6a8bd01d514818c99015c61eff495d2690f5b6d09fa3e43f85101ad0", func := "loop.example/transactionorders/laws.FnExactCommittedOf", spec := "fnExactCommittedOf", unfollowed := true, recurses := true, apart := false }
def FnExactCommittedOfSaid : Prop := fnExactCommittedOfRow.holds Try.pinned (OpenSpec.ofChange fnExactCommittedOfSpec)

/-- ITS FALSE NEIGHBOUR: 'it returns false'. Refute it at one input. -/
def fnExactCommittedOfWrong : ChangeSpec := { name := "fnExactCommittedOf", fn := fun _ => fun
  | [d] => { results := [.lit (.bool false)], args := [d] }
  | _ => none }
def FnExactCommittedOfWrongFalsely : Prop := fnExactCommittedOfRow.holds Try.pinned (OpenSpec.ofChange fnExactCommittedOfWrong)

/-- 'laws.FnExactStampsOf': WHATEVER THE INPUT: true; the input reads as it did. -/
def fnExactStampsOfSpec : ChangeSpec := { name := "fnExactStampsOf", fn := fun _ => fun
  | [d] => { results := [.lit (.bool true)], args := [d] }
  | _ => none }
def fnExactStampsOfRow : OpenClaim := { program := "ytgoedkdpanoggaa", sum := "2bb3bbcb6a8bd01d514818c99015c61eff495d2690f5b6d09fa3e43f85101ad0", func := "loop.example/transactionorders/laws.FnExactStampsOf", spec := "fnExactStampsOf", apart := false }
def FnExactStampsOfSaid : Prop := fnExactStampsOfRow.holds Try.pinned (OpenSpec.ofChange fnExactStampsOfSpec)

/-- ITS FALSE NEIGHBOUR: 'it returns false'. Refute it at one input. -/
def fnExactStampsOfWrong : ChangeSpec := { name := "fnExactStampsOf", fn := fun _ => fun
  | [d] => { results := [.lit (.bool false)], args := [d] }
  | _ => none }
def FnExactStampsOfWrongFalsely : Prop := fnExactStampsOfRow.holds Try.pinned (OpenSpec.ofChange fnExactStampsOfWrong)

/-- 'laws.FnExactTxsOf': WHATEVER THE INPUT: true; the input reads as it did. -/
def fnExactTxsOfSpec : ChangeSpec := { name := "fnExactTxsOf", fn := fun _ => fun
  | [d] => { results := [.lit (.bool true)], args := [d] }
  | _ => none }
def fnExactTxsOfRow : OpenClaim := { program := "ytgoedkdpanoggaa", sum := "2bb3bbcb6a8bd01d514818c99015c61eff495d2690f5b6d09fa3e43f85101ad0", func := "loop.example/transactionorders/laws.FnExactTxsOf", spec := "fnExactTxsOf", unfollowed := true, recurses := true, apart := false }
def FnExactTxsOfSaid : Prop := fnExactTxsOfRow.holds Try.pinned (OpenSpec.ofChange fnExactTxsOfSpec)

/-- ITS FALSE NEIGHBOUR: 'it returns false'. Refute it at one input. -/
def fnExactTxsOfWrong : ChangeSpec := { name := "fnExactTxsOf", fn := fun _ => fun
  | [d] => { results := [.lit (.bool false)], args := [d] }
  | _ => none }
def FnExactTxsOfWrongFalsely : Prop := fnExactTxsOfRow.holds Try.pinned (OpenSpec.ofChange fnExactTxsOfWrong)

/-- 'laws.FnExactReadsOf': WHATEVER THE INPUT: true; the input reads as it did. -/
def fnExactReadsOfSpec : ChangeSpec := { name := "fnExactReadsOf", fn := fun _ => fun
  | [d] => { results := [.lit (.bool true)], args := [d] }
  | _ => none }
def fnExactReadsOfRow : OpenClaim := { program := "ytgoedkdpanoggaa", sum := "2bb3bbcb6a8bd01d514818c99015c61eff495d2690f5b6d09fa3e43f85101ad0", func := "loop.example/transactionorders/laws.FnExactReadsOf", spec := "fnExactReadsOf", apart := false }
def FnExactReadsOfSaid : Prop := fnExactReadsOfRow.holds Try.pinned (OpenSpec.ofChange fnExactReadsOfSpec)

/-- ITS FALSE NEIGHBOUR: 'it returns false'. Refute it at one input. -/
def fnExactReadsOfWrong : ChangeSpec := { name := "fnExactReadsOf", fn := fun _ => fun
  | [d] => { results := [.lit (.bool false)], args := [d] }
  | _ => none }
def FnExactReadsOfWrongFalsely : Prop := fnExactReadsOfRow.holds Try.pinned (OpenSpec.ofChange fnExactReadsOfWrong)

/-- 'laws.FnExactConflictsOf': WHATEVER THE INPUT: true; the input reads as it did. -/
def fnExactConflictsOfSpec : ChangeSpec := { name := "fnExactConflictsOf", fn := fun _ => fun
  | [d] => { results := [.lit (.bool true)], args := [d] }
  | _ => none }
def fnExactConflictsOfRow : OpenClaim := { program := "ytgoedkdpanoggaa", sum := "2bb3bbcb6a8bd01d514818c99015c61eff495d2690f5b6d09fa3e43f85101ad0", func := "loop.example/transactionorders/laws.FnExactConflictsOf", spec := "fnExactConflictsOf", apart := false }
def FnExactConflictsOfSaid : Prop := fnExactConflictsOfRow.holds Try.pinned (OpenSpec.ofChange fnExactConflictsOfSpec)

/-- ITS FALSE NEIGHBOUR: 'it returns false'. Refute it at one input. -/
def fnExactConflictsOfWrong : ChangeSpec := { name := "fnExactConflictsOf", fn := fun _ => fun
  | [d] => { results := [.lit (.bool false)], args := [d] }
  | _ => none }
def FnExactConflictsOfWrongFalsely : Prop := fnExactConflictsOfRow.holds Try.pinned (OpenSpec.ofChange fnExactConflictsOfWrong)

/-- 'laws.FnExactFinalsOf': WHATEVER THE INPUT: true; the input reads as it did. -/
def fnExactFinalsOfSpec : ChangeSpec := { name := "fnExactFinalsOf", fn := fun _ => fun
  | [d] => { results := [.lit (.bool true)], args := [d] }
  | _ => none }
def fnExactFinalsOfRow : OpenClaim := { program := "ytgoedkdpanoggaa", sum := "2bb3bbcb6a8bd01d514818c99015c61eff495d2690f5b6d09fa3e43f85101ad0", func := "loop.example/transactionorders/laws.FnExactFinalsOf", spec := "fnExactFinalsOf", apart := false }
def FnExactFinalsOfSaid : Prop := fnExactFinalsOfRow.holds Try.pinned (OpenSpec.ofChange fnExactFinalsOfSpec)

/-- ITS FALSE NEIGHBOUR: 'it returns false'. Refute it at one input. -/
def fnExactFinalsOfWrong : ChangeSpec := { name := "fnExactFinalsOf", fn := fun _ => fun
  | [d] => { results := [.lit (.bool false)], args := [d] }
  | _ => none }
def FnExactFinalsOfWrongFalsely : Prop := fnExactFinalsOfRow.holds Try.pinned (OpenSpec.ofChange fnExactFinalsOfWrong)

/- THE SECOND FORM. 'bulk': how many values and letters a reading holds, each counted each time it is reached (what is shared counts as often as it is met; a slice's spare places count too). A statement '..UptoSaid' is the law's where the arguments, and the package variables that the reading takes, are together of bulk at most 1048576: NARROWER than '..Said'. Prove '..Said' where nothing that the law and all that it calls make is longer than what came in: it says more and counts as full. Else prove '..UptoSaid'. A law counts once. -/
mutual
def uptoBulk {H : Type} : DataW H → Nat
  | .lit (.string bytes) => bytes.length + 1
  | .lit _ => 1
  | .nil => 1
  | .ptr d => uptoBulk d + 1
  | .slice elems spare => uptoBulkAll elems + uptoBulkAll spare + 1
  | .agg parts => uptoBulkAll parts + 1
  | .iface _ d => uptoBulk d + 1
  | .map entries => uptoBulkEntries entries + 1
  | .held _ => 1
def uptoBulkAll {H : Type} : List (DataW H) → Nat
  | [] => 0
  | d :: r => uptoBulk d + uptoBulkAll r
def uptoBulkEntries {H : Type} : List (Lit × DataW H) → Nat
  | [] => 0
  | x :: r => uptoBulkEntry x + uptoBulkEntries r
def uptoBulkEntry {H : Type} : Lit × DataW H → Nat
  | (.string bytes, d) => bytes.length + uptoBulk d + 1
  | (_, d) => uptoBulk d + 1
 end
def uptoSmall : (H : Type) → List (DataW H) → Bool := fun _ ds => decide (uptoBulkAll ds ≤ 1048576)
def OpenSpec.upto (s : _root_.Go.ChangeSpec) : _root_.Go.OpenSpec := { _root_.Go.OpenSpec.ofChange s with cond := some uptoSmall }

/-- 'laws.FnExactValidSchedule', WHERE WHAT IT READS IS OF BULK AT MOST 1048576: true; the input reads as it did. -/
def fnExactValidScheduleUptoRow : OpenClaim := { program := "ytgoedkdpanoggaa", sum := "2bb3bbcb6a8bd01d514818c99015c61eff495d2690f5b6d09fa3e43f85101ad0", func := "loop.example/transactionorders/laws.FnExactValidSchedule", spec := "fnExactValidSchedule", apart := false, narrowed := true }
def FnExactValidScheduleUptoSaid : Prop := fnExactValidScheduleUptoRow.holds Try.pinned (OpenSpec.upto fnExactValidScheduleSpec)

/-- 'laws.FnExactEndOf', WHERE WHAT IT READS IS OF BULK AT MOST 1048576: true; the input reads as it did. -/
def fnExactEndOfUptoRow : OpenClaim := { program := "ytgoedkdpanoggaa", sum := "2bb3bbcb6a8bd01d514818c99015c61eff495d2690f5b6d09fa3e43f85101ad0", func := "loop.example/transactionorders/laws.FnExactEndOf", spec := "fnExactEndOf", apart := false, narrowed := true }
def FnExactEndOfUptoSaid : Prop := fnExactEndOfUptoRow.holds Try.pinned (OpenSpec.upto fnExactEndOfSpec)

/-- 'laws.FnExactIsSerial', WHERE WHAT IT READS IS OF BULK AT MOST 1048576: true; the input reads as it did. -/
def fnExactIsSerialUptoRow : OpenClaim := { program := "ytgoedkdpanoggaa", sum := "2bb3bbcb6a8bd01d514818c99015c61eff495d2690f5b6d09fa3e43f85101ad0", func := "loop.example/transactionorders/laws.FnExactIsSerial", spec := "fnExactIsSerial", unfollowed := true, recurses := true, apart := false, narrowed := true }
def FnExactIsSerialUptoSaid : Prop := fnExactIsSerialUptoRow.holds Try.pinned (OpenSpec.upto fnExactIsSerialSpec)

/-- 'laws.FnExactOpsOf', WHERE WHAT IT READS IS OF BULK AT MOST 1048576: true; the input reads as it did. -/
def fnExactOpsOfUptoRow : OpenClaim := { program := "ytgoedkdpanoggaa", sum := "2bb3bbcb6a8bd01d514818c99015c61eff495d2690f5b6d09fa3e43f85101ad0", func := "loop.example/transactionorders/laws.FnExactOpsOf", spec := "fnExactOpsOf", unfollowed := true, recurses := true, apart := false, narrowed := true }
def FnExactOpsOfUptoSaid : Prop := fnExactOpsOfUptoRow.holds Try.pinned (OpenSpec.upto fnExactOpsOfSpec)

/-- 'laws.FnExactSwapAt', WHERE WHAT IT READS IS OF BULK AT MOST 1048576: true; the input reads as it did. -/
def fnExactSwapAtUptoRow : OpenClaim := { program := "ytgoedkdpanoggaa", sum := "2bb3bbcb6a8bd01d514818c99015c61eff495d2690f5b6d09fa3e43f85101ad0", func := "loop.example/transactionorders/laws.FnExactSwapAt", spec := "fnExactSwapAt", apart := false, narrowed := true }
def FnExactSwapAtUptoSaid : Prop := fnExactSwapAtUptoRow.holds Try.pinned (OpenSpec.upto fnExactSwapAtSpec)

/-- 'laws.FnExactHasBlind', WHERE WHAT IT READS IS OF BULK AT MOST 1048576: true; the input reads as it did. -/
def fnExactHasBlindUptoRow : OpenClaim := { program := "ytgoedkdpanoggaa", sum := "2bb3bbcb6a8bd01d514818c99015c61eff495d2690f5b6d09fa3e43f85101ad0", func := "loop.example/transactionorders/laws.FnExactHasBlind", spec := "fnExactHasBlind", unfollowed := true, recurses := true, apart := false, narrowed := true }
def FnExactHasBlindUptoSaid : Prop := fnExactHasBlindUptoRow.holds Try.pinned (OpenSpec.upto fnExactHasBlindSpec)

/-- 'laws.FnExactCommittedOf', WHERE WHAT IT READS IS OF BULK AT MOST 1048576: true; the input reads as it did. -/
def fnExactCommittedOfUptoRow : OpenClaim := { program := "ytgoedkdpanoggaa", sum := "2bb3bbcb6a8bd01d514818c99015c61eff495d2690f5b6d09fa3e43f85101ad0", func := "loop.example/transactionorders/laws.FnExactCommittedOf", spec := "fnExactCommittedOf", unfollowed := true, recurses := true, apart := false, narrowed := true }
def FnExactCommittedOfUptoSaid : Prop := fnExactCommittedOfUptoRow.holds Try.pinned (OpenSpec.upto fnExactCommittedOfSpec)

/-- 'laws.FnExactStampsOf', WHERE WHAT IT READS IS OF BULK AT MOST 1048576: true; the input reads as it did. -/
def fnExactStampsOfUptoRow : OpenClaim := { program := "ytgoedkdpanoggaa", sum := "2bb3bbcb6a8bd01d514818c99015c61eff495d2690f5b6d09fa3e43f85101ad0", func := "loop.example/transactionorders/laws.FnExactStampsOf", spec := "fnExactStampsOf", apart := false, narrowed := true }
def FnExactStampsOfUptoSaid : Prop := fnExactStampsOfUptoRow.holds Try.pinned (OpenSpec.upto fnExactStampsOfSpec)

/-- 'laws.FnExactTxsOf', WHERE WHAT IT READS IS OF BULK AT MOST 1048576: true; the input reads as it did. -/
def fnExactTxsOfUptoRow : OpenClaim := { program := "ytgoedkdpanoggaa", sum := "2bb3bbcb6a8bd01d514818c99015c61eff495d2690f5b6d09fa3e43f85101ad0", func := "loop.example/transactionorders/laws.FnExactTxsOf", spec := "fnExactTxsOf", unfollowed := true, recurses := true, apart := false, narrowed := true }
def FnExactTxsOfUptoSaid : Prop := fnExactTxsOfUptoRow.holds Try.pinned (OpenSpec.upto fnExactTxsOfSpec)

/-- 'laws.FnExactReadsOf', WHERE WHAT IT READS IS OF BULK AT MOST 1048576: true; the input reads as it did. -/
def fnExactReadsOfUptoRow : OpenClaim := { program := "ytgoedkdpanoggaa", sum := "2bb3bbcb6a8bd01d514818c99015c61eff495d2690f5b6d09fa3e43f85101ad0", func := "loop.example/transactionorders/laws.FnExactReadsOf", spec := "fnExactReadsOf", apart := false, narrowed := true }
def FnExactReadsOfUptoSaid : Prop := fnExactReadsOfUptoRow.holds Try.pinned (OpenSpec.upto fnExactReadsOfSpec)

/-- 'laws.FnExactConflictsOf', WHERE WHAT IT READS IS OF BULK AT MOST 1048576: true; the input reads as it did. -/
def fnExactConflictsOfUptoRow : OpenClaim := { program := "ytgoedkdpanoggaa", sum := "2bb3bbcb6a8bd01d514818c99015c61eff495d2690f5b6d09fa3e43f85101ad0", func := "loop.example/transactionorders/laws.FnExactConflictsOf", spec := "fnExactConflictsOf", apart := false, narrowed := true }
def FnExactConflictsOfUptoSaid : Prop := fnExactConflictsOfUptoRow.holds Try.pinned (OpenSpec.upto fnExactConflictsOfSpec)

/-- 'laws.FnExactFinalsOf', WHERE WHAT IT READS IS OF BULK AT MOST 1048576: true; the input reads as it did. -/
def fnExactFinalsOfUptoRow : OpenClaim := { program := "ytgoedkdpanoggaa", sum := "2bb3bbcb6a8bd01d514818c99015c61eff495d2690f5b6d09fa3e43f85101ad0", func := "loop.example/transactionorders/laws.FnExactFinalsOf", spec := "fnExactFinalsOf", apart := false, narrowed := true }
def FnExactFinalsOfUptoSaid : Prop := fnExactFinalsOfUptoRow.holds Try.pinned (OpenSpec.upto fnExactFinalsOfSpec)

end Rows
end Go.Proofs.Ytgoedkdpanoggaa
