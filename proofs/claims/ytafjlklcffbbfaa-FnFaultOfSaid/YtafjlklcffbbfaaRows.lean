/-
  No cell of these rows narrows 'for every input' (looked for: loops, veiled, ifaces, maps, wideKeys, modest, calm, conditions, laid).
  DERIVED. THE GIVEN ROWS OF THIS SEAT. 6 by the template 'for every input the law returns true; each argument reads behind the call as it read before'; 0 by the template 'total and deterministic' (their statements: YtafjlklcffbbfaaTotals.lean).
  GIVEN WITH THE SEED: the statements are not yours to turn. If you find one false, say at which input.
  Laid BY PROGRAM, IN A SANDBOX (cutbox-rows.mjs): the forced cells as the released guide's own fill.sh prints them over the translation ac92c3dded056c88… (all of the seat's roots in one cut). By AI agents, Wed Nov 11 2026. No macro, syntax, notation, axiom, sorry.
-/
import Derived.Test.YtafjlklcffbbfaaChecked
import GoSem.Claim
import GoSem.ClaimJoined
import GoSem.ClaimMapViews
import Derived.JoinedTies
import Derived.KernelRfl
namespace Go.Proofs.Ytafjlklcffbbfaa
/- THE CELL 'sum', in the pinned program and in every row, IS THE sha256 OF THE DUMP (.gsa) THAT YtafjlklcffbbfaaProg.lean LOADS. Nothing in Lean hashes anything: it is a label: what it is worth is what the hold of that sum in a sandbox is worth. -/
noncomputable def Try.pinned : Pinned := { name := "ytafjlklcffbbfaa", sum := "ac92c3dded056c8836d66b0480c954b1a89a0bfe7f9ef66a046ed158e9128b37", checked := Try.checked }
namespace Rows
def none {H : Type} : Left H := { results := [], args := [] }

/-- 'laws.FnExactSurvivorsOf': WHATEVER THE INPUT: true; the input reads as it did. -/
def fnExactSurvivorsOfSpec : ChangeSpec := { name := "fnExactSurvivorsOf", fn := fun _ => fun
  | [d] => { results := [.lit (.bool true)], args := [d] }
  | _ => none }
def fnExactSurvivorsOfRow : OpenClaim := { program := "ytafjlklcffbbfaa", sum := "ac92c3dded056c8836d66b0480c954b1a89a0bfe7f9ef66a046ed158e9128b37", func := "loop.example/transactionorders/laws.FnExactSurvivorsOf", spec := "fnExactSurvivorsOf", unfollowed := true, recurses := true, apart := false }
def FnExactSurvivorsOfSaid : Prop := fnExactSurvivorsOfRow.holds Try.pinned (OpenSpec.ofChange fnExactSurvivorsOfSpec)

/-- ITS FALSE NEIGHBOUR: 'it returns false'. Refute it at one input. -/
def fnExactSurvivorsOfWrong : ChangeSpec := { name := "fnExactSurvivorsOf", fn := fun _ => fun
  | [d] => { results := [.lit (.bool false)], args := [d] }
  | _ => none }
def FnExactSurvivorsOfWrongFalsely : Prop := fnExactSurvivorsOfRow.holds Try.pinned (OpenSpec.ofChange fnExactSurvivorsOfWrong)

/-- 'laws.FnExactVersionsOf': WHATEVER THE INPUT: true; the input reads as it did. -/
def fnExactVersionsOfSpec : ChangeSpec := { name := "fnExactVersionsOf", fn := fun _ => fun
  | [d] => { results := [.lit (.bool true)], args := [d] }
  | _ => none }
def fnExactVersionsOfRow : OpenClaim := { program := "ytafjlklcffbbfaa", sum := "ac92c3dded056c8836d66b0480c954b1a89a0bfe7f9ef66a046ed158e9128b37", func := "loop.example/transactionorders/laws.FnExactVersionsOf", spec := "fnExactVersionsOf", unfollowed := true, recurses := true, apart := false }
def FnExactVersionsOfSaid : Prop := fnExactVersionsOfRow.holds Try.pinned (OpenSpec.ofChange fnExactVersionsOfSpec)

/-- ITS FALSE NEIGHBOUR: 'it returns false'. Refute it at one input. -/
def fnExactVersionsOfWrong : ChangeSpec := { name := "fnExactVersionsOf", fn := fun _ => fun
  | [d] => { results := [.lit (.bool false)], args := [d] }
  | _ => none }
def FnExactVersionsOfWrongFalsely : Prop := fnExactVersionsOfRow.holds Try.pinned (OpenSpec.ofChange fnExactVersionsOfWrong)

/-- 'laws.FnExactAgainstOf': WHATEVER THE INPUT: true; the input reads as it did. -/
def fnExactAgainstOfSpec : ChangeSpec := { name := "fnExactAgainstOf", fn := fun _ => fun
  | [d] => { results := [.lit (.bool true)], args := [d] }
  | _ => none }
def fnExactAgainstOfRow : OpenClaim := { program := "ytafjlklcffbbfaa", sum := "ac92c3dded056c8836d66b0480c954b1a89a0bfe7f9ef66a046ed158e9128b37", func := "loop.example/transactionorders/laws.FnExactAgainstOf", spec := "fnExactAgainstOf", unfollowed := true, recurses := true, apart := false }
def FnExactAgainstOfSaid : Prop := fnExactAgainstOfRow.holds Try.pinned (OpenSpec.ofChange fnExactAgainstOfSpec)

/-- ITS FALSE NEIGHBOUR: 'it returns false'. Refute it at one input. -/
def fnExactAgainstOfWrong : ChangeSpec := { name := "fnExactAgainstOf", fn := fun _ => fun
  | [d] => { results := [.lit (.bool false)], args := [d] }
  | _ => none }
def FnExactAgainstOfWrongFalsely : Prop := fnExactAgainstOfRow.holds Try.pinned (OpenSpec.ofChange fnExactAgainstOfWrong)

/-- 'laws.FnExactFaultOf': WHATEVER THE INPUT: true; the input reads as it did. -/
def fnExactFaultOfSpec : ChangeSpec := { name := "fnExactFaultOf", fn := fun _ => fun
  | [d1, d2] => { results := [.lit (.bool true)], args := [d1, d2] }
  | _ => none }
def fnExactFaultOfRow : OpenClaim := { program := "ytafjlklcffbbfaa", sum := "ac92c3dded056c8836d66b0480c954b1a89a0bfe7f9ef66a046ed158e9128b37", func := "loop.example/transactionorders/laws.FnExactFaultOf", spec := "fnExactFaultOf", unfollowed := true, recurses := true, apart := false }
def FnExactFaultOfSaid : Prop := fnExactFaultOfRow.holds Try.pinned (OpenSpec.ofChange fnExactFaultOfSpec)

/-- ITS FALSE NEIGHBOUR: 'it returns false'. Refute it at one input. -/
def fnExactFaultOfWrong : ChangeSpec := { name := "fnExactFaultOf", fn := fun _ => fun
  | [d1, d2] => { results := [.lit (.bool false)], args := [d1, d2] }
  | _ => none }
def FnExactFaultOfWrongFalsely : Prop := fnExactFaultOfRow.holds Try.pinned (OpenSpec.ofChange fnExactFaultOfWrong)

/-- 'laws.FnExactKeeps': WHATEVER THE INPUT: true; the input reads as it did. -/
def fnExactKeepsSpec : ChangeSpec := { name := "fnExactKeeps", fn := fun _ => fun
  | [d1, d2] => { results := [.lit (.bool true)], args := [d1, d2] }
  | _ => none }
def fnExactKeepsRow : OpenClaim := { program := "ytafjlklcffbbfaa", sum := "ac92c3dded056c8836d66b0480c954b1a89a0bfe7f9ef66a046ed158e9128b37", func := "loop.example/transactionorders/laws.FnExactKeeps", spec := "fnExactKeeps", unfollowed := true, recurses := true, apart := false }
def FnExactKeepsSaid : Prop := fnExactKeepsRow.holds Try.pinned (OpenSpec.ofChange fnExactKeepsSpec)

/-- ITS FALSE NEIGHBOUR: 'it returns false'. Refute it at one input. -/
def fnExactKeepsWrong : ChangeSpec := { name := "fnExactKeeps", fn := fun _ => fun
  | [d1, d2] => { results := [.lit (.bool false)], args := [d1, d2] }
  | _ => none }
def FnExactKeepsWrongFalsely : Prop := fnExactKeepsRow.holds Try.pinned (OpenSpec.ofChange fnExactKeepsWrong)

/-- 'laws.FnFaultOf': WHATEVER THE INPUT: true; the input reads as it did. -/
def fnFaultOfSpec : ChangeSpec := { name := "fnFaultOf", fn := fun _ => fun
  | [d] => { results := [.lit (.bool true)], args := [d] }
  | _ => none }
def fnFaultOfRow : OpenClaim := { program := "ytafjlklcffbbfaa", sum := "ac92c3dded056c8836d66b0480c954b1a89a0bfe7f9ef66a046ed158e9128b37", func := "loop.example/transactionorders/laws.FnFaultOf", spec := "fnFaultOf", unfollowed := true, recurses := true, apart := false }
def FnFaultOfSaid : Prop := fnFaultOfRow.holds Try.pinned (OpenSpec.ofChange fnFaultOfSpec)

/-- ITS FALSE NEIGHBOUR: 'it returns false'. Refute it at one input. -/
def fnFaultOfWrong : ChangeSpec := { name := "fnFaultOf", fn := fun _ => fun
  | [d] => { results := [.lit (.bool false)], args := [d] }
  | _ => none }
def FnFaultOfWrongFalsely : Prop := fnFaultOfRow.holds Try.pinned (OpenSpec.ofChange fnFaultOfWrong)

/- THE SECOND FORM. 'bulk': how many values and letters a reading holds, each counted each time it is reached (what is shared counts as often as it is met; a slice's spare places count too). A statement '..UptoSaid' is the law's where the arguments, and the package variables that the reading takes, are together of bulk at most 1048576: NARROWER than '..Said'. Prove '..Said' where nothing that the law and all that it calls make is longer than what came in: it says more and counts as full. Else prove '..UptoSaid'. A law counts once. -/
mutual
def uptoBulk {H : Type} : DataW H → Nat
  | .lit (.string bytes) => bytes.length + 1
  | .lit _ => 1
  | .nil => 1
  | .ptr d => uptoBulk d + 1
  | .slice elems spare => uptoBulkAll elems + uptoBulkAll spare + 1
  | .agg parts => uptoBulkAll parts + 1
  | .iface _ d => uptoBulk d + 1
  | .map entries => uptoBulkEntries entries + 1
  | .held _ => 1
def uptoBulkAll {H : Type} : List (DataW H) → Nat
  | [] => 0
  | d :: r => uptoBulk d + uptoBulkAll r
def uptoBulkEntries {H : Type} : List (Lit × DataW H) → Nat
  | [] => 0
  | x :: r => uptoBulkEntry x + uptoBulkEntries r
def uptoBulkEntry {H : Type} : Lit × DataW H → Nat
  | (.string bytes, d) => bytes.length + uptoBulk d + 1
  | (_, d) => uptoBulk d + 1
 end
def uptoSmall : (H : Type) → List (DataW H) → Bool := fun _ ds => decide (uptoBulkAll ds ≤ 1048576)
def OpenSpec.upto (s : _root_.Go.ChangeSpec) : _root_.Go.OpenSpec := { _root_.Go.OpenSpec.ofChange s with cond := some uptoSmall }

/-- 'laws.FnExactSurvivorsOf', WHERE WHAT IT READS IS OF BULK AT MOST 1048576: true; the input reads as it did. -/
def fnExactSurvivorsOfUptoRow : OpenClaim := { program := "ytafjlklcffbbfaa", sum := "ac92c3dded056c8836d66b0480c954b1a89a0bfe7f9ef66a046ed158e9128b37", func := "loop.example/transactionorders/laws.FnExactSurvivorsOf", spec := "fnExactSurvivorsOf", unfollowed := true, recurses := true, apart := false, narrowed := true }
def FnExactSurvivorsOfUptoSaid : Prop := fnExactSurvivorsOfUptoRow.holds Try.pinned (OpenSpec.upto fnExactSurvivorsOfSpec)

/-- 'laws.FnExactVersionsOf', WHERE WHAT IT READS IS OF BULK AT MOST 1048576: true; the input reads as it did. -/
def fnExactVersionsOfUptoRow : OpenClaim := { program := "ytafjlklcffbbfaa", sum := "ac92c3dded056c8836d66b0480c954b1a89a0bfe7f9ef66a046ed158e9128b37", func := "loop.example/transactionorders/laws.FnExactVersionsOf", spec := "fnExactVersionsOf", unfollowed := true, recurses := true, apart := false, narrowed := true }
def FnExactVersionsOfUptoSaid : Prop := fnExactVersionsOfUptoRow.holds Try.pinned (OpenSpec.upto fnExactVersionsOfSpec)

/-- 'laws.FnExactAgainstOf', WHERE WHAT IT READS IS OF BULK AT MOST 1048576: true; the input reads as it did. -/
def fnExactAgainstOfUptoRow : OpenClaim := { program := "ytafjlklcffbbfaa", sum := "ac92c3dded056c8836d66b0480c954b1a89a0bfe7f9ef66a046ed158e9128b37", func := "loop.example/transactionorders/laws.FnExactAgainstOf", spec := "fnExactAgainstOf", unfollowed := true, recurses := true, apart := false, narrowed := true }
def FnExactAgainstOfUptoSaid : Prop := fnExactAgainstOfUptoRow.holds Try.pinned (OpenSpec.upto fnExactAgainstOfSpec)

/-- 'laws.FnExactFaultOf', WHERE WHAT IT READS IS OF BULK AT MOST 1048576: true; the input reads as it did. -/
def fnExactFaultOfUptoRow : OpenClaim := { program := "ytafjlklcffbbfaa", sum := "ac92c3dded056c8836d66b0480c954b1a89a0bfe7f9ef66a046ed158e9128b37", func := "loop.example/transactionorders/laws.FnExactFaultOf", spec := "fnExactFaultOf", unfollowed := true, recurses := true, apart := false, narrowed := true }
def FnExactFaultOfUptoSaid : Prop := fnExactFaultOfUptoRow.holds Try.pinned (OpenSpec.upto fnExactFaultOfSpec)

/-- 'laws.FnExactKeeps', WHERE WHAT IT READS IS OF BULK AT MOST 1048576: true; the input reads as it did. -/
def fnExactKeepsUptoRow : OpenClaim := { program := "ytafjlklcffbbfaa", sum := "ac92c3dded056c8836d66b0480c954b1a89a0bfe7f9ef66a046ed158e9128b37", func := "loop.example/transactionorders/laws.FnExactKeeps", spec := "fnExactKeeps", unfollowed := true, recurses := true, apart := false, narrowed := true }
def FnExactKeepsUptoSaid : Prop := fnExactKeepsUptoRow.holds Try.pinned (OpenSpec.upto fnExactKeepsSpec)

/-- 'laws.FnFaultOf', WHERE WHAT IT READS IS OF BULK AT MOST 1048576: true; the input reads as it did. -/
def fnFaultOfUptoRow : OpenClaim := { program := "ytafjlklcffbbfaa", sum := "ac92c3dded056c8836d66b0480c954b1a89a0bfe7f9ef66a046ed158e9128b37", func := "loop.example/transactionorders/laws.FnFaultOf", spec := "fnFaultOf", unfollowed := true, recurses := true, apart := false, narrowed := true }
def FnFaultOfUptoSaid : Prop := fnFaultOfUptoRow.holds Try.pinned (OpenSpec.upto fnFaultOfSpec)

end Rows
end Go.Proofs.Ytafjlklcffbbfaa
