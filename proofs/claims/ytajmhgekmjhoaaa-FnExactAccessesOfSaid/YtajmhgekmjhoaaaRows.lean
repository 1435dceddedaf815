/-
  No cell of these rows narrows 'for every input' (looked for: loops, veiled, ifaces, maps, wideKeys, modest, calm, conditions, laid).
  DERIVED. THE GIVEN ROWS OF THIS SEAT. 6 by the template 'for every input the law returns true; each argument reads behind the call as it read before'; 0 by the template 'total and deterministic' (their statements: YtajmhgekmjhoaaaTotals.lean).
  GIVEN WITH THE SEED: the statements are not yours to turn. If you find one false, say at which input.
  Laid BY PROGRAM, IN A SANDBOX (cutbox-rows.mjs): the forced cells as the released guide's own fill.sh prints them over the translation d591cd8b78ffb484… (all of the seat's roots in one cut). By AI agents, Wed Nov 11 2026. No macro, syntax, notation, axiom, sorry.
-/
import Derived.Test.YtajmhgekmjhoaaaChecked
import GoSem.Claim
import GoSem.ClaimJoined
import GoSem.ClaimMapViews
import Derived.JoinedTies
import Derived.KernelRfl
namespace Go.Proofs.Ytajmhgekmjhoaaa
/- THE CELL 'sum', in the pinned program and in every row, IS THE sha256 OF THE DUMP (.gsa) THAT YtajmhgekmjhoaaaProg.lean LOADS. Nothing in Lean hashes anything: it is a label: what it is worth is what the hold of that sum in a sandbox is worth. -/
noncomputable def Try.pinned : Pinned := { name := "ytajmhgekmjhoaaa", sum := "d591cd8b78ffb484bd3e5f59a844bc6d3aa0ae29d2b0fe86e35ee7cd22d4c788", checked := Try.checked }
namespace Rows
def none {H : Type} : Left H := { results := [], args := [] }

/-- 'laws.FnExactHeldAt': WHATEVER THE INPUT: true; the input reads as it did. -/
def fnExactHeldAtSpec : ChangeSpec := { name := "fnExactHeldAt", fn := fun _ => fun
  | [d1, d2, d3, d4] => { results := [.lit (.bool true)], args := [d1, d2, d3, d4] }
  | _ => none }
def fnExactHeldAtRow : OpenClaim := { program := "ytajmhgekmjhoaaa", sum := "d591cd8b78ffb484bd3e5f59a844bc6d3aa0ae29d2b0fe86e35ee7cd22d4c788", func := "loop.example/transactionorders/laws.FnExactHeldAt", spec := "fnExactHeldAt", unfollowed := true, recurses := true, apart := false }
def FnExactHeldAtSaid : Prop := fnExactHeldAtRow.holds Try.pinned (OpenSpec.ofChange fnExactHeldAtSpec)

/-- ITS FALSE NEIGHBOUR: 'it returns false'. Refute it at one input. -/
def fnExactHeldAtWrong : ChangeSpec := { name := "fnExactHeldAt", fn := fun _ => fun
  | [d1, d2, d3, d4] => { results := [.lit (.bool false)], args := [d1, d2, d3, d4] }
  | _ => none }
def FnExactHeldAtWrongFalsely : Prop := fnExactHeldAtRow.holds Try.pinned (OpenSpec.ofChange fnExactHeldAtWrong)

/-- 'laws.FnExactPointsOf': WHATEVER THE INPUT: true; the input reads as it did. -/
def fnExactPointsOfSpec : ChangeSpec := { name := "fnExactPointsOf", fn := fun _ => fun
  | [d] => { results := [.lit (.bool true)], args := [d] }
  | _ => none }
def fnExactPointsOfRow : OpenClaim := { program := "ytajmhgekmjhoaaa", sum := "d591cd8b78ffb484bd3e5f59a844bc6d3aa0ae29d2b0fe86e35ee7cd22d4c788", func := "loop.example/transactionorders/laws.FnExactPointsOf", spec := "fnExactPointsOf", unfollowed := true, recurses := true, apart := false }
def FnExactPointsOfSaid : Prop := fnExactPointsOfRow.holds Try.pinned (OpenSpec.ofChange fnExactPointsOfSpec)

/-- ITS FALSE NEIGHBOUR: 'it returns false'. Refute it at one input. -/
def fnExactPointsOfWrong : ChangeSpec := { name := "fnExactPointsOf", fn := fun _ => fun
  | [d] => { results := [.lit (.bool false)], args := [d] }
  | _ => none }
def FnExactPointsOfWrongFalsely : Prop := fnExactPointsOfRow.holds Try.pinned (OpenSpec.ofChange fnExactPointsOfWrong)

/-- 'laws.FnExactIllegalAt': WHATEVER THE INPUT: true; the input reads as it did. -/
def fnExactIllegalAtSpec : ChangeSpec := { name := "fnExactIllegalAt", fn := fun _ => fun
  | [d] => { results := [.lit (.bool true)], args := [d] }
  | _ => none }
def fnExactIllegalAtRow : OpenClaim := { program := "ytajmhgekmjhoaaa", sum := "d591cd8b78ffb484bd3e5f59a844bc6d3aa0ae29d2b0fe86e35ee7cd22d4c788", func := "loop.example/transactionorders/laws.FnExactIllegalAt", spec := "fnExactIllegalAt", unfollowed := true, recurses := true, apart := false }
def FnExactIllegalAtSaid : Prop := fnExactIllegalAtRow.holds Try.pinned (OpenSpec.ofChange fnExactIllegalAtSpec)

/-- ITS FALSE NEIGHBOUR: 'it returns false'. Refute it at one input. -/
def fnExactIllegalAtWrong : ChangeSpec := { name := "fnExactIllegalAt", fn := fun _ => fun
  | [d] => { results := [.lit (.bool false)], args := [d] }
  | _ => none }
def FnExactIllegalAtWrongFalsely : Prop := fnExactIllegalAtRow.holds Try.pinned (OpenSpec.ofChange fnExactIllegalAtWrong)

/-- 'laws.FnExactAccessesOf': WHATEVER THE INPUT: true; the input reads as it did. -/
def fnExactAccessesOfSpec : ChangeSpec := { name := "fnExactAccessesOf", fn := fun _ => fun
  | [d] => { results := [.lit (.bool true)], args := [d] }
  | _ => none }
def fnExactAccessesOfRow : OpenClaim := { program := "ytajmhgekmjhoaaa", sum := "d591cd8b78ffb484bd3e5f59a844bc6d3aa0ae29d2b0fe86e35ee7cd22d4c788", func := "loop.example/transactionorders/laws.FnExactAccessesOf", spec := "fnExactAccessesOf", unfollowed := true, recurses := true, apart := false }
def FnExactAccessesOfSaid : Prop := fnExactAccessesOfRow.holds Try.pinned (OpenSpec.ofChange fnExactAccessesOfSpec)

/-- ITS FALSE NEIGHBOUR: 'it returns false'. Refute it at one input. -/
def fnExactAccessesOfWrong : ChangeSpec := { name := "fnExactAccessesOf", fn := fun _ => fun
  | [d] => { results := [.lit (.bool false)], args := [d] }
  | _ => none }
def FnExactAccessesOfWrongFalsely : Prop := fnExactAccessesOfRow.holds Try.pinned (OpenSpec.ofChange fnExactAccessesOfWrong)

/-- 'laws.FnExactIsTreeLocked': WHATEVER THE INPUT: true; the input reads as it did. -/
def fnExactIsTreeLockedSpec : ChangeSpec := { name := "fnExactIsTreeLocked", fn := fun _ => fun
  | [d1, d2] => { results := [.lit (.bool true)], args := [d1, d2] }
  | _ => none }
def fnExactIsTreeLockedRow : OpenClaim := { program := "ytajmhgekmjhoaaa", sum := "d591cd8b78ffb484bd3e5f59a844bc6d3aa0ae29d2b0fe86e35ee7cd22d4c788", func := "loop.example/transactionorders/laws.FnExactIsTreeLocked", spec := "fnExactIsTreeLocked", unfollowed := true, recurses := true, apart := false }
def FnExactIsTreeLockedSaid : Prop := fnExactIsTreeLockedRow.holds Try.pinned (OpenSpec.ofChange fnExactIsTreeLockedSpec)

/-- ITS FALSE NEIGHBOUR: 'it returns false'. Refute it at one input. -/
def fnExactIsTreeLockedWrong : ChangeSpec := { name := "fnExactIsTreeLocked", fn := fun _ => fun
  | [d1, d2] => { results := [.lit (.bool false)], args := [d1, d2] }
  | _ => none }
def FnExactIsTreeLockedWrongFalsely : Prop := fnExactIsTreeLockedRow.holds Try.pinned (OpenSpec.ofChange fnExactIsTreeLockedWrong)

/-- 'laws.FnExactLocksOf': WHATEVER THE INPUT: true; the input reads as it did. -/
def fnExactLocksOfSpec : ChangeSpec := { name := "fnExactLocksOf", fn := fun _ => fun
  | [d] => { results := [.lit (.bool true)], args := [d] }
  | _ => none }
def fnExactLocksOfRow : OpenClaim := { program := "ytajmhgekmjhoaaa", sum := "d591cd8b78ffb484bd3e5f59a844bc6d3aa0ae29d2b0fe86e35ee7cd22d4c788", func := "loop.example/transactionorders/laws.FnExactLocksOf", spec := "fnExactLocksOf", unfollowed := true, recurses := true, apart := false }
def FnExactLocksOfSaid : Prop := fnExactLocksOfRow.holds Try.pinned (OpenSpec.ofChange fnExactLocksOfSpec)

/-- ITS FALSE NEIGHBOUR: 'it returns false'. Refute it at one input. -/
def fnExactLocksOfWrong : ChangeSpec := { name := "fnExactLocksOf", fn := fun _ => fun
  | [d] => { results := [.lit (.bool false)], args := [d] }
  | _ => none }
def FnExactLocksOfWrongFalsely : Prop := fnExactLocksOfRow.holds Try.pinned (OpenSpec.ofChange fnExactLocksOfWrong)

/- THE SECOND FORM. 'bulk': how many values and letters a reading holds, each counted each time it is reached (what is shared counts as often as it is met; a slice's spare places count too). A statement '..UptoSaid' is the law's where the arguments, and the package variables that the reading takes, are together of bulk at most 1048576: NARROWER than '..Said'. Prove '..Said' where nothing that the law and all that it calls make is longer than what came in: it says more and counts as full. Else prove '..UptoSaid'. A law counts once. -/
mutual
def uptoBulk {H : Type} : DataW H → Nat
  | .lit (.string bytes) => bytes.length + 1
  | .lit _ => 1
  | .nil => 1
  | .ptr d => uptoBulk d + 1
  | .slice elems spare => uptoBulkAll elems + uptoBulkAll spare + 1
  | .agg parts => uptoBulkAll parts + 1
  | .iface _ d => uptoBulk d + 1
  | .map entries => uptoBulkEntries entries + 1
  | .held _ => 1
def uptoBulkAll {H : Type} : List (DataW H) → Nat
  | [] => 0
  | d :: r => uptoBulk d + uptoBulkAll r
def uptoBulkEntries {H : Type} : List (Lit × DataW H) → Nat
  | [] => 0
  | x :: r => uptoBulkEntry x + uptoBulkEntries r
def uptoBulkEntry {H : Type} : Lit × DataW H → Nat
  | (.string bytes, d) => bytes.length + uptoBulk d + 1
  | (_, d) => uptoBulk d + 1
 end
def uptoSmall : (H : Type) → List (DataW H) → Bool := fun _ ds => decide (uptoBulkAll ds ≤ 1048576)
def OpenSpec.upto (s : _root_.Go.ChangeSpec) : _root_.Go.OpenSpec := { _root_.Go.OpenSpec.ofChange s with cond := some uptoSmall }

/-- 'laws.FnExactHeldAt', WHERE WHAT IT READS IS OF BULK AT MOST 1048576: true; the input reads as it did. -/
def fnExactHeldAtUptoRow : OpenClaim := { program := "ytajmhgekmjhoaaa", sum := "d591cd8b78ffb484bd3e5f59a844bc6d3aa0ae29d2b0fe86e35ee7cd22d4c788", func := "loop.example/transactionorders/laws.FnExactHeldAt", spec := "fnExactHeldAt", unfollowed := true, recurses := true, apart := false, narrowed := true }
def FnExactHeldAtUptoSaid : Prop := fnExactHeldAtUptoRow.holds Try.pinned (OpenSpec.upto fnExactHeldAtSpec)

/-- 'laws.FnExactPointsOf', WHERE WHAT IT READS IS OF BULK AT MOST 1048576: true; the input reads as it did. -/
def fnExactPointsOfUptoRow : OpenClaim := { program := "ytajmhgekmjhoaaa", sum := "d591cd8b78ffb484bd3e5f59a844bc6d3aa0ae29d2b0fe86e35ee7cd22d4c788", func := "loop.example/transactionorders/laws.FnExactPointsOf", spec := "fnExactPointsOf", unfollowed := true, recurses := true, apart := false, narrowed := true }
def FnExactPointsOfUptoSaid : Prop := fnExactPointsOfUptoRow.holds Try.pinned (OpenSpec.upto fnExactPointsOfSpec)

/-- 'laws.FnExactIllegalAt', WHERE WHAT IT READS IS OF BULK AT MOST 1048576: true; the input reads as it did. -/
def fnExactIllegalAtUptoRow : OpenClaim := { program := "ytajmhgekmjhoaaa", sum := "d591cd8b78ffb484bd3e5f59a844bc6d3aa0ae29d2b0fe86e35ee7cd22d4c788", func := "loop.example/transactionorders/laws.FnExactIllegalAt", spec := "fnExactIllegalAt", unfollowed := true, recurses := true, apart := false, narrowed := true }
def FnExactIllegalAtUptoSaid : Prop := fnExactIllegalAtUptoRow.holds Try.pinned (OpenSpec.upto fnExactIllegalAtSpec)

/-- 'laws.FnExactAccessesOf', WHERE WHAT IT READS IS OF BULK AT MOST 1048576: true; the input reads as it did. -/
def fnExactAccessesOfUptoRow : OpenClaim := { program := "ytajmhgekmjhoaaa", sum := "d591cd8b78ffb484bd3e5f59a844bc6d3aa0ae29d2b0fe86e35ee7cd22d4c788", func := "loop.example/transactionorders/laws.FnExactAccessesOf", spec := "fnExactAccessesOf", unfollowed := true, recurses := true, apart := false, narrowed := true }
def FnExactAccessesOfUptoSaid : Prop := fnExactAccessesOfUptoRow.holds Try.pinned (OpenSpec.upto fnExactAccessesOfSpec)

/-- 'laws.FnExactIsTreeLocked', WHERE WHAT IT READS IS OF BULK AT MOST 1048576: true; the input reads as it did. -/
def fnExactIsTreeLockedUptoRow : OpenClaim := { program := "ytajmhgekmjhoaaa", sum := "d591cd8b78ffb484bd3e5f59a844bc6d3aa0ae29d2b0fe86e35ee7cd22d4c788", func := "loop.example/transactionorders/laws.FnExactIsTreeLocked", spec := "fnExactIsTreeLocked", unfollowed := true, recurses := true, apart := false, narrowed := true }
def FnExactIsTreeLockedUptoSaid : Prop := fnExactIsTreeLockedUptoRow.holds Try.pinned (OpenSpec.upto fnExactIsTreeLockedSpec)

/-- 'laws.FnExactLocksOf', WHERE WHAT IT READS IS OF BULK AT MOST 1048576: true; the input reads as it did. -/
def fnExactLocksOfUptoRow : OpenClaim := { program := "ytajmhgekmjhoaaa", sum := "d591cd8b78ffb484bd3e5f59a844bc6d3aa0ae29d2b0fe86e35ee7cd22d4c788", func := "loop.example/transactionorders/laws.FnExactLocksOf", spec := "fnExactLocksOf", unfollowed := true, recurses := true, apart := false, narrowed := true }
def FnExactLocksOfUptoSaid : Prop := fnExactLocksOfUptoRow.holds Try.pinned (OpenSpec.upto fnExactLocksOfSpec)

end Rows
end Go.Proofs.Ytajmhgekmjhoaaa
