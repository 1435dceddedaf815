/-
  No cell of these rows narrows 'for every input' (looked for: loops, veiled, ifaces, maps, wideKeys, modest, calm, conditions, laid).
  DERIVED. THE GIVEN ROWS OF THIS SEAT. 5 by the template 'for every input the law returns true; each argument reads behind the call as it read before'; 0 by the template 'total and deterministic' (their statements: YtgmpjogonifjeaaTotals.lean).
  GIVEN WITH THE SEED: the statements are not yours to turn. If you find one false, say at which input.
  Laid BY PROGRAM, IN A SANDBOX (cutbox-rows.mjs): the forced cells as the released guide's own fill.sh prints them over the translation e012f68918ad451b… (all of the seat's roots in one cut). By AI agents, Wed Nov 11 2026. No macro, syntax, notation, axiom, sorry.
-/
import Derived.Test.YtgmpjogonifjeaaChecked
import GoSem.Claim
import GoSem.ClaimJoined
import GoSem.ClaimMapViews
import Derived.JoinedTies
import Derived.KernelRfl
namespace Go.Proofs.Ytgmpjogonifjeaa
/- THE CELL 'sum', in the pinned program and in every row, IS THE sha256 OF THE DUMP (.gsa) THAT YtgmpjogonifjeaaProg.lean LOADS. Nothing in Lean hashes anything: it is a label: what it is worth is what the hold of that sum in a sandbox is worth. -/
noncomputable def Try.pinned : Pinned := { name := "ytgmpjogonifjeaa", sum := "e012f68918ad451b7fbd834fed7f058d4ea0f5536a0f57f8075edbd27aa595d9", checked := Try.checked }
namespace Rows
def none {H : Type} : Left H := { results := [], args := [] }

/-- 'laws.FnExactConstants': WHATEVER THE INPUT: true; the input reads as it did. -/
def fnExactConstantsSpec : ChangeSpec := { name := "fnExactConstants", fn := fun _ => fun
  | [] => { results := [.lit (.bool true)], args := [] }
  | _ => none }
def fnExactConstantsRow : OpenClaim := { program := "ytgmpjogonifjeaa", sum := "e012f68918ad451b7fbd834fed7f058d4ea0f5536a0f57f8075edbd27aa595d9", func := "loop.example/transactionorders/laws.FnExactConstants", spec := "fnExactConstants", apart := false }
def FnExactConstantsSaid : Prop := fnExactConstantsRow.holds Try.pinned (OpenSpec.ofChange fnExactConstantsSpec)

/-- ITS FALSE NEIGHBOUR: 'it returns false'. Refute it at one input. -/
def fnExactConstantsWrong : ChangeSpec := { name := "fnExactConstants", fn := fun _ => fun
  | [] => { results := [.lit (.bool false)], args := [] }
  | _ => none }
def FnExactConstantsWrongFalsely : Prop := fnExactConstantsRow.holds Try.pinned (OpenSpec.ofChange fnExactConstantsWrong)

/-- 'laws.FnExactDoConflict': WHATEVER THE INPUT: true; the input reads as it did. -/
def fnExactDoConflictSpec : ChangeSpec := { name := "fnExactDoConflict", fn := fun _ => fun
  | [d1, d2] => { results := [.lit (.bool true)], args := [d1, d2] }
  | _ => none }
def fnExactDoConflictRow : OpenClaim := { program := "ytgmpjogonifjeaa", sum := "e012f68918ad451b7fbd834fed7f058d4ea0f5536a0f57f8075edbd27aa595d9", func := "loop.example/transactionorders/laws.FnExactDoConflict", spec := "fnExactDoConflict", apart := false }
def FnExactDoConflictSaid : Prop := fnExactDoConflictRow.holds Try.pinned (OpenSpec.ofChange fnExactDoConflictSpec)

/-- ITS FALSE NEIGHBOUR: 'it returns false'. Refute it at one input. -/
def fnExactDoConflictWrong : ChangeSpec := { name := "fnExactDoConflict", fn := fun _ => fun
  | [d1, d2] => { results := [.lit (.bool false)], args := [d1, d2] }
  | _ => none }
def FnExactDoConflictWrongFalsely : Prop := fnExactDoConflictRow.holds Try.pinned (OpenSpec.ofChange fnExactDoConflictWrong)

/-- 'laws.FnDoConflict': WHATEVER THE INPUT: true; the input reads as it did. -/
def fnDoConflictSpec : ChangeSpec := { name := "fnDoConflict", fn := fun _ => fun
  | [d] => { results := [.lit (.bool true)], args := [d] }
  | _ => none }
def fnDoConflictRow : OpenClaim := { program := "ytgmpjogonifjeaa", sum := "e012f68918ad451b7fbd834fed7f058d4ea0f5536a0f57f8075edbd27aa595d9", func := "loop.example/transactionorders/laws.FnDoConflict", spec := "fnDoConflict", apart := false }
def FnDoConflictSaid : Prop := fnDoConflictRow.holds Try.pinned (OpenSpec.ofChange fnDoConflictSpec)

/-- ITS FALSE NEIGHBOUR: 'it returns false'. Refute it at one input. -/
def fnDoConflictWrong : ChangeSpec := { name := "fnDoConflict", fn := fun _ => fun
  | [d] => { results := [.lit (.bool false)], args := [d] }
  | _ => none }
def FnDoConflictWrongFalsely : Prop := fnDoConflictRow.holds Try.pinned (OpenSpec.ofChange fnDoConflictWrong)

/-- 'laws.FnExactValidSteps': WHATEVER THE INPUT: true; the input reads as it did. -/
def fnExactValidStepsSpec : ChangeSpec := { name := "fnExactValidSteps", fn := fun _ => fun
  | [d] => { results := [.lit (.bool true)], args := [d] }
  | _ => none }
def fnExactValidStepsRow : OpenClaim := { program := "ytgmpjogonifjeaa", sum := "e012f68918ad451b7fbd834fed7f058d4ea0f5536a0f57f8075edbd27aa595d9", func := "loop.example/transactionorders/laws.FnExactValidSteps", spec := "fnExactValidSteps", unfollowed := true, recurses := true, apart := false }
def FnExactValidStepsSaid : Prop := fnExactValidStepsRow.holds Try.pinned (OpenSpec.ofChange fnExactValidStepsSpec)

/-- ITS FALSE NEIGHBOUR: 'it returns false'. Refute it at one input. -/
def fnExactValidStepsWrong : ChangeSpec := { name := "fnExactValidSteps", fn := fun _ => fun
  | [d] => { results := [.lit (.bool false)], args := [d] }
  | _ => none }
def FnExactValidStepsWrongFalsely : Prop := fnExactValidStepsRow.holds Try.pinned (OpenSpec.ofChange fnExactValidStepsWrong)

/-- 'laws.FnExactIsTwoPhase': WHATEVER THE INPUT: true; the input reads as it did. -/
def fnExactIsTwoPhaseSpec : ChangeSpec := { name := "fnExactIsTwoPhase", fn := fun _ => fun
  | [d] => { results := [.lit (.bool true)], args := [d] }
  | _ => none }
def fnExactIsTwoPhaseRow : OpenClaim := { program := "ytgmpjogonifjeaa", sum := "e012f68918ad451b7fbd834fed7f058d4ea0f5536a0f57f8075edbd27aa595d9", func := "loop.example/transactionorders/laws.FnExactIsTwoPhase", spec := "fnExactIsTwoPhase", unfollowed := true, recurses := true, apart := false }
def FnExactIsTwoPhaseSaid : Prop := fnExactIsTwoPhaseRow.holds Try.pinned (OpenSpec.ofChange fnExactIsTwoPhaseSpec)

/-- ITS FALSE NEIGHBOUR: 'it returns false'. Refute it at one input. -/
def fnExactIsTwoPhaseWrong : ChangeSpec := { name := "fnExactIsTwoPhase", fn := fun _ => fun
  | [d] => { results := [.lit (.bool false)], args := [d] }
  | _ => none }
def FnExactIsTwoPhaseWrongFalsely : Prop := fnExactIsTwoPhaseRow.holds Try.pinned (OpenSpec.ofChange fnExactIsTwoPhaseWrong)

/- THE SECOND FORM. 'bulk': how many values and letters a reading holds, each counted each time it is reached (what is shared counts as often as it is met; a slice's spare places count too). A statement '..UptoSaid' is the law's where the arguments, and the package variables that the reading takes, are together of bulk at most 1048576: NARROWER than '..Said'. Prove '..Said' where nothing that the law and all that it calls make is longer than what came in: it says more and counts as full. Else prove '..UptoSaid'. A law counts once. -/
mutual
def uptoBulk {H : Type} : DataW H → Nat
  | .lit (.string bytes) => bytes.length + 1
  | .lit _ => 1
  | .nil => 1
  | .ptr d => uptoBulk d + 1
  | .slice elems spare => uptoBulkAll elems + uptoBulkAll spare + 1
  | .agg parts => uptoBulkAll parts + 1
  | .iface _ d => uptoBulk d + 1
  | .map entries => uptoBulkEntries entries + 1
  | .held _ => 1
def uptoBulkAll {H : Type} : List (DataW H) → Nat
  | [] => 0
  | d :: r => uptoBulk d + uptoBulkAll r
def uptoBulkEntries {H : Type} : List (Lit × DataW H) → Nat
  | [] => 0
  | x :: r => uptoBulkEntry x + uptoBulkEntries r
def uptoBulkEntry {H : Type} : Lit × DataW H → Nat
  | (.string bytes, d) => bytes.length + uptoBulk d + 1
  | (_, d) => uptoBulk d + 1
 end
def uptoSmall : (H : Type) → List (DataW H) → Bool := fun _ ds => decide (uptoBulkAll ds ≤ 1048576)
def OpenSpec.upto (s : _root_.Go.ChangeSpec) : _root_.Go.OpenSpec := { _root_.Go.OpenSpec.ofChange s with cond := some uptoSmall }

/-- 'laws.FnExactConstants', WHERE WHAT IT READS IS OF BULK AT MOST 1048576: true; the input reads as it did. -/
def fnExactConstantsUptoRow : OpenClaim := { program := "ytgmpjogonifjeaa", sum := "e012f68918ad451b7fbd834fed7f058d4ea0f5536a0f57f8075edbd27aa595d9", func := "loop.example/transactionorders/laws.FnExactConstants", spec := "fnExactConstants", apart := false, narrowed := true }
def FnExactConstantsUptoSaid : Prop := fnExactConstantsUptoRow.holds Try.pinned (OpenSpec.upto fnExactConstantsSpec)

/-- 'laws.FnExactDoConflict', WHERE WHAT IT READS IS OF BULK AT MOST 1048576: true; the input reads as it did. -/
def fnExactDoConflictUptoRow : OpenClaim := { program := "ytgmpjogonifjeaa", sum := "e012f68918ad451b7fbd834fed7f058d4ea0f5536a0f57f8075edbd27aa595d9", func := "loop.example/transactionorders/laws.FnExactDoConflict", spec := "fnExactDoConflict", apart := false, narrowed := true }
def FnExactDoConflictUptoSaid : Prop := fnExactDoConflictUptoRow.holds Try.pinned (OpenSpec.upto fnExactDoConflictSpec)

/-- 'laws.FnDoConflict', WHERE WHAT IT READS IS OF BULK AT MOST 1048576: true; the input reads as it did. -/
def fnDoConflictUptoRow : OpenClaim := { program := "ytgmpjogonifjeaa", sum := "e012f68918ad451b7fbd834fed7f058d4ea0f5536a0f57f8075edbd27aa595d9", func := "loop.example/transactionorders/laws.FnDoConflict", spec := "fnDoConflict", apart := false, narrowed := true }
def FnDoConflictUptoSaid : Prop := fnDoConflictUptoRow.holds Try.pinned (OpenSpec.upto fnDoConflictSpec)

/-- 'laws.FnExactValidSteps', WHERE WHAT IT READS IS OF BULK AT MOST 1048576: true; the input reads as it did. -/
def fnExactValidStepsUptoRow : OpenClaim := { program := "ytgmpjogonifjeaa", sum := "e012f68918ad451b7fbd834fed7f058d4ea0f5536a0f57f8075edbd27aa595d9", func := "loop.example/transactionorders/laws.FnExactValidSteps", spec := "fnExactValidSteps", unfollowed := true, recurses := true, apart := false, narrowed := true }
def FnExactValidStepsUptoSaid : Prop := fnExactValidStepsUptoRow.holds Try.pinned (OpenSpec.upto fnExactValidStepsSpec)

/-- 'laws.FnExactIsTwoPhase', WHERE WHAT IT READS IS OF BULK AT MOST 1048576: true; the input reads as it did. -/
def fnExactIsTwoPhaseUptoRow : OpenClaim := { program := "ytgmpjogonifjeaa", sum := "e012f68918ad451b7fbd834fed7f058d4ea0f5536a0f57f8075edbd27aa595d9", func := "loop.example/transactionorders/laws.FnExactIsTwoPhase", spec := "fnExactIsTwoPhase", unfollowed := true, recurses := true, apart := false, narrowed := true }
def FnExactIsTwoPhaseUptoSaid : Prop := fnExactIsTwoPhaseUptoRow.holds Try.pinned (OpenSpec.upto fnExactIsTwoPhaseSpec)

end Rows
end Go.Proofs.Ytgmpjogonifjeaa
