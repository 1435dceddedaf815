/-
  No cell of these rows narrows 'for every input' (looked for: loops, veiled, ifaces, maps, wideKeys, modest, calm, conditions, laid).
  DERIVED. THE GIVEN ROWS OF THIS SEAT. 7 by the template 'for every input the law returns true; each argument reads behind the call as it read before'; 0 by the template 'total and deterministic' (their statements: YtaflkbemecjcpaaTotals.lean).
  GIVEN WITH THE SEED: the statements are not yours to turn. If you find one false, say at which input.
  Laid BY PROGRAM, IN A SANDBOX (cutbox-rows.mjs): the forced cells as the released guide's own fill.sh prints them over the translation 4c898b1cfaaaf8ac… (all of the seat's roots in one cut). By AI agents, Wed Nov 11 2026. No macro, syntax, notation, axiom, sorry.
-/
import Derived.Test.YtaflkbemecjcpaaChecked
import GoSem.Claim
import GoSem.ClaimJoined
import GoSem.ClaimMapViews
import Derived.JoinedTies
import Derived.KernelRfl
namespace Go.Proofs.Ytaflkbemecjcpaa
/- THE CELL 'sum', in the pinned program and in every row, IS THE sha256 OF THE DUMP (.gsa) THAT YtaflkbemecjcpaaProg.lean LOADS. Nothing in Lean hashes anything: it is a label: what it is worth is what the hold of that sum in a sandbox is worth. -/
noncomputable def Try.pinned : Pinned := { name := "ytaflkbemecjcpaa", sum := "4c898b1cfaaaf8ac69403fa2a619a744a4a421cdf61e76b3f5b714f76a4ab86b", checked := Try.checked }
namespace Rows
def none {H : Type} : Left H := { results := [], args := [] }

/-- 'laws.FnExactGraphOf': WHATEVER THE INPUT: true; the input reads as it did. -/
def fnExactGraphOfSpec : ChangeSpec := { name := "fnExactGraphOf", fn := fun _ => fun
  | [d] => { results := [.lit (.bool true)], args := [d] }
  | _ => none }
def fnExactGraphOfRow : OpenClaim := { program := "ytaflkbemecjcpaa", sum := "4c898b1cfaaaf8ac69403fa2a619a744a4a421cdf61e76b3f5b714f76a4ab86b", func := "loop.example/transactionorders/laws.FnExactGraphOf", spec := "fnExactGraphOf", unfollowed := true, recurses := true, plainKeys := false, apart := false }
def FnExactGraphOfSaid : Prop := fnExactGraphOfRow.holds Try.pinned (OpenSpec.ofChange fnExactGraphOfSpec)

/-- ITS FALSE NEIGHBOUR: 'it returns false'. Refute it at one input. -/
def fnExactGraphOfWrong : ChangeSpec := { name := "fnExactGraphOf", fn := fun _ => fun
  | [d] => { results := [.lit (.bool false)], args := [d] }
  | _ => none }
def FnExactGraphOfWrongFalsely : Prop := fnExactGraphOfRow.holds Try.pinned (OpenSpec.ofChange fnExactGraphOfWrong)

/-- 'laws.FnGraphOf': WHATEVER THE INPUT: true; the input reads as it did. -/
def fnGraphOfSpec : ChangeSpec := { name := "fnGraphOf", fn := fun _ => fun
  | [d] => { results := [.lit (.bool true)], args := [d] }
  | _ => none }
def fnGraphOfRow : OpenClaim := { program := "ytaflkbemecjcpaa", sum := "4c898b1cfaaaf8ac69403fa2a619a744a4a421cdf61e76b3f5b714f76a4ab86b", func := "loop.example/transactionorders/laws.FnGraphOf", spec := "fnGraphOf", unfollowed := true, recurses := true, plainKeys := false, apart := false }
def FnGraphOfSaid : Prop := fnGraphOfRow.holds Try.pinned (OpenSpec.ofChange fnGraphOfSpec)

/-- ITS FALSE NEIGHBOUR: 'it returns false'. Refute it at one input. -/
def fnGraphOfWrong : ChangeSpec := { name := "fnGraphOf", fn := fun _ => fun
  | [d] => { results := [.lit (.bool false)], args := [d] }
  | _ => none }
def FnGraphOfWrongFalsely : Prop := fnGraphOfRow.holds Try.pinned (OpenSpec.ofChange fnGraphOfWrong)

/-- 'laws.FnExactIsSame': WHATEVER THE INPUT: true; the input reads as it did. -/
def fnExactIsSameSpec : ChangeSpec := { name := "fnExactIsSame", fn := fun _ => fun
  | [d1, d2] => { results := [.lit (.bool true)], args := [d1, d2] }
  | _ => none }
def fnExactIsSameRow : OpenClaim := { program := "ytaflkbemecjcpaa", sum := "4c898b1cfaaaf8ac69403fa2a619a744a4a421cdf61e76b3f5b714f76a4ab86b", func := "loop.example/transactionorders/laws.FnExactIsSame", spec := "fnExactIsSame", unfollowed := true, recurses := true, plainKeys := false, apart := false }
def FnExactIsSameSaid : Prop := fnExactIsSameRow.holds Try.pinned (OpenSpec.ofChange fnExactIsSameSpec)

/-- ITS FALSE NEIGHBOUR: 'it returns false'. Refute it at one input. -/
def fnExactIsSameWrong : ChangeSpec := { name := "fnExactIsSame", fn := fun _ => fun
  | [d1, d2] => { results := [.lit (.bool false)], args := [d1, d2] }
  | _ => none }
def FnExactIsSameWrongFalsely : Prop := fnExactIsSameRow.holds Try.pinned (OpenSpec.ofChange fnExactIsSameWrong)

/-- 'laws.FnSwapAt': WHATEVER THE INPUT: true; the input reads as it did. -/
def fnSwapAtSpec : ChangeSpec := { name := "fnSwapAt", fn := fun _ => fun
  | [d] => { results := [.lit (.bool true)], args := [d] }
  | _ => none }
def fnSwapAtRow : OpenClaim := { program := "ytaflkbemecjcpaa", sum := "4c898b1cfaaaf8ac69403fa2a619a744a4a421cdf61e76b3f5b714f76a4ab86b", func := "loop.example/transactionorders/laws.FnSwapAt", spec := "fnSwapAt", unfollowed := true, recurses := true, plainKeys := false, apart := false }
def FnSwapAtSaid : Prop := fnSwapAtRow.holds Try.pinned (OpenSpec.ofChange fnSwapAtSpec)

/-- ITS FALSE NEIGHBOUR: 'it returns false'. Refute it at one input. -/
def fnSwapAtWrong : ChangeSpec := { name := "fnSwapAt", fn := fun _ => fun
  | [d] => { results := [.lit (.bool false)], args := [d] }
  | _ => none }
def FnSwapAtWrongFalsely : Prop := fnSwapAtRow.holds Try.pinned (OpenSpec.ofChange fnSwapAtWrong)

/-- 'laws.FnExactIsSerializable': WHATEVER THE INPUT: true; the input reads as it did. -/
def fnExactIsSerializableSpec : ChangeSpec := { name := "fnExactIsSerializable", fn := fun _ => fun
  | [d] => { results := [.lit (.bool true)], args := [d] }
  | _ => none }
def fnExactIsSerializableRow : OpenClaim := { program := "ytaflkbemecjcpaa", sum := "4c898b1cfaaaf8ac69403fa2a619a744a4a421cdf61e76b3f5b714f76a4ab86b", func := "loop.example/transactionorders/laws.FnExactIsSerializable", spec := "fnExactIsSerializable", unfollowed := true, recurses := true, plainKeys := false, apart := false }
def FnExactIsSerializableSaid : Prop := fnExactIsSerializableRow.holds Try.pinned (OpenSpec.ofChange fnExactIsSerializableSpec)

/-- ITS FALSE NEIGHBOUR: 'it returns false'. Refute it at one input. -/
def fnExactIsSerializableWrong : ChangeSpec := { name := "fnExactIsSerializable", fn := fun _ => fun
  | [d] => { results := [.lit (.bool false)], args := [d] }
  | _ => none }
def FnExactIsSerializableWrongFalsely : Prop := fnExactIsSerializableRow.holds Try.pinned (OpenSpec.ofChange fnExactIsSerializableWrong)

/-- 'laws.FnExactCycleOf': WHATEVER THE INPUT: true; the input reads as it did. -/
def fnExactCycleOfSpec : ChangeSpec := { name := "fnExactCycleOf", fn := fun _ => fun
  | [d] => { results := [.lit (.bool true)], args := [d] }
  | _ => none }
def fnExactCycleOfRow : OpenClaim := { program := "ytaflkbemecjcpaa", sum := "4c898b1cfaaaf8ac69403fa2a619a744a4a421cdf61e76b3f5b714f76a4ab86b", func := "loop.example/transactionorders/laws.FnExactCycleOf", spec := "fnExactCycleOf", unfollowed := true, recurses := true, plainKeys := false, apart := false }
def FnExactCycleOfSaid : Prop := fnExactCycleOfRow.holds Try.pinned (OpenSpec.ofChange fnExactCycleOfSpec)

/-- ITS FALSE NEIGHBOUR: 'it returns false'. Refute it at one input. -/
def fnExactCycleOfWrong : ChangeSpec := { name := "fnExactCycleOf", fn := fun _ => fun
  | [d] => { results := [.lit (.bool false)], args := [d] }
  | _ => none }
def FnExactCycleOfWrongFalsely : Prop := fnExactCycleOfRow.holds Try.pinned (OpenSpec.ofChange fnExactCycleOfWrong)

/-- 'laws.FnExactScheduleText': WHATEVER THE INPUT: true; the input reads as it did. -/
def fnExactScheduleTextSpec : ChangeSpec := { name := "fnExactScheduleText", fn := fun _ => fun
  | [d] => { results := [.lit (.bool true)], args := [d] }
  | _ => none }
def fnExactScheduleTextRow : OpenClaim := { program := "ytaflkbemecjcpaa", sum := "4c898b1cfaaaf8ac69403fa2a619a744a4a421cdf61e76b3f5b714f76a4ab86b", func := "loop.example/transactionorders/laws.FnExactScheduleText", spec := "fnExactScheduleText", inPlace := ["internal/abi.NoEscape", "internal/bytealg.MakeNoZero"], plainKeys := false, apart := false }
def FnExactScheduleTextSaid : Prop := fnExactScheduleTextRow.holds Try.pinned (OpenSpec.ofChange fnExactScheduleTextSpec)

/-- ITS FALSE NEIGHBOUR: 'it returns false'. Refute it at one input. -/
def fnExactScheduleTextWrong : ChangeSpec := { name := "fnExactScheduleText", fn := fun _ => fun
  | [d] => { results := [.lit (.bool false)], args := [d] }
  | _ => none }
def FnExactScheduleTextWrongFalsely : Prop := fnExactScheduleTextRow.holds Try.pinned (OpenSpec.ofChange fnExactScheduleTextWrong)

/- THE SECOND FORM. 'bulk': how many values and letters a reading holds, each counted each time it is reached (what is shared counts as often as it is met; a slice's spare places count too). A statement '..UptoSaid' is the law's where the arguments, and the package variables that the reading takes, are together of bulk at most 1048576: NARROWER than '..Said'. Prove '..Said' where nothing that the law and all that it calls make is longer than what came in: it says more and counts as full. Else prove '..UptoSaid'. A law counts once. -/
mutual
def uptoBulk {H : Type} : DataW H → Nat
  | .lit (.string bytes) => bytes.length + 1
  | .lit _ => 1
  | .nil => 1
  | .ptr d => uptoBulk d + 1
  | .slice elems spare => uptoBulkAll elems + uptoBulkAll spare + 1
  | .agg parts => uptoBulkAll parts + 1
  | .iface _ d => uptoBulk d + 1
  | .map entries => uptoBulkEntries entries + 1
  | .held _ => 1
def uptoBulkAll {H : Type} : List (DataW H) → Nat
  | [] => 0
  | d :: r => uptoBulk d + uptoBulkAll r
def uptoBulkEntries {H : Type} : List (Lit × DataW H) → Nat
  | [] => 0
  | x :: r => uptoBulkEntry x + uptoBulkEntries r
def uptoBulkEntry {H : Type} : Lit × DataW H → Nat
  | (.string bytes, d) => bytes.length + uptoBulk d + 1
  | (_, d) => uptoBulk d + 1
 end
def uptoSmall : (H : Type) → List (DataW H) → Bool := fun _ ds => decide (uptoBulkAll ds ≤ 1048576)
def OpenSpec.upto (s : _root_.Go.ChangeSpec) : _root_.Go.OpenSpec := { _root_.Go.OpenSpec.ofChange s with cond := some uptoSmall }

/-- 'laws.FnExactGraphOf', WHERE WHAT IT READS IS OF BULK AT MOST 1048576: true; the input reads as it did. -/
def fnExactGraphOfUptoRow : OpenClaim := { program := "ytaflkbemecjcpaa", sum := "4c898b1cfaaaf8ac69403fa2a619a744a4a421cdf61e76b3f5b714f76a4ab86b", func := "loop.example/transactionorders/laws.FnExactGraphOf", spec := "fnExactGraphOf", unfollowed := true, recurses := true, plainKeys := false, apart := false, narrowed := true }
def FnExactGraphOfUptoSaid : Prop := fnExactGraphOfUptoRow.holds Try.pinned (OpenSpec.upto fnExactGraphOfSpec)

/-- 'laws.FnGraphOf', WHERE WHAT IT READS IS OF BULK AT MOST 1048576: true; the input reads as it did. -/
def fnGraphOfUptoRow : OpenClaim := { program := "ytaflkbemecjcpaa", sum := "4c898b1cfaaaf8ac69403fa2a619a744a4a421cdf61e76b3f5b714f76a4ab86b", func := "loop.example/transactionorders/laws.FnGraphOf", spec := "fnGraphOf", unfollowed := true, recurses := true, plainKeys := false, apart := false, narrowed := true }
def FnGraphOfUptoSaid : Prop := fnGraphOfUptoRow.holds Try.pinned (OpenSpec.upto fnGraphOfSpec)

/-- 'laws.FnExactIsSame', WHERE WHAT IT READS IS OF BULK AT MOST 1048576: true; the input reads as it did. -/
def fnExactIsSameUptoRow : OpenClaim := { program := "ytaflkbemecjcpaa", sum := "4c898b1cfaaaf8ac69403fa2a619a744a4a421cdf61e76b3f5b714f76a4ab86b", func := "loop.example/transactionorders/laws.FnExactIsSame", spec := "fnExactIsSame", unfollowed := true, recurses := true, plainKeys := false, apart := false, narrowed := true }
def FnExactIsSameUptoSaid : Prop := fnExactIsSameUptoRow.holds Try.pinned (OpenSpec.upto fnExactIsSameSpec)

/-- 'laws.FnSwapAt', WHERE WHAT IT READS IS OF BULK AT MOST 1048576: true; the input reads as it did. -/
def fnSwapAtUptoRow : OpenClaim := { program := "ytaflkbemecjcpaa", sum := "4c898b1cfaaaf8ac69403fa2a619a744a4a421cdf61e76b3f5b714f76a4ab86b", func := "loop.example/transactionorders/laws.FnSwapAt", spec := "fnSwapAt", unfollowed := true, recurses := true, plainKeys := false, apart := false, narrowed := true }
def FnSwapAtUptoSaid : Prop := fnSwapAtUptoRow.holds Try.pinned (OpenSpec.upto fnSwapAtSpec)

/-- 'laws.FnExactIsSerializable', WHERE WHAT IT READS IS OF BULK AT MOST 1048576: true; the input reads as it did. -/
def fnExactIsSerializableUptoRow : OpenClaim := { program := "ytaflkbemecjcpaa", sum := "4c898b1cfaaaf8ac69403fa2a619a744a4a421cdf61e76b3f5b714f76a4ab86b", func := "loop.example/transactionorders/laws.FnExactIsSerializable", spec := "fnExactIsSerializable", unfollowed := true, recurses := true, plainKeys := false, apart := false, narrowed := true }
def FnExactIsSerializableUptoSaid : Prop := fnExactIsSerializableUptoRow.holds Try.pinned (OpenSpec.upto fnExactIsSerializableSpec)

/-- 'laws.FnExactCycleOf', WHERE WHAT IT READS IS OF BULK AT MOST 1048576: true; the input reads as it did. -/
def fnExactCycleOfUptoRow : OpenClaim := { program := "ytaflkbemecjcpaa", sum := "4c898b1cfaaaf8ac69403fa2a619a744a4a421cdf61e76b3f5b714f76a4ab86b", func := "loop.example/transactionorders/laws.FnExactCycleOf", spec := "fnExactCycleOf", unfollowed := true, recurses := true, plainKeys := false, apart := false, narrowed := true }
def FnExactCycleOfUptoSaid : Prop := fnExactCycleOfUptoRow.holds Try.pinned (OpenSpec.upto fnExactCycleOfSpec)

/-- 'laws.FnExactScheduleText', WHERE WHAT IT READS IS OF BULK AT MOST 1048576: true; the input reads as it did. -/
def fnExactScheduleTextUptoRow : OpenClaim := { program := "ytaflkbemecjcpaa", sum := "4c898b1cfaaaf8ac69403fa2a619a744a4a421cdf61e76b3f5b714f76a4ab86b", func := "loop.example/transactionorders/laws.FnExactScheduleText", spec := "fnExactScheduleText", inPlace := ["internal/abi.NoEscape", "internal/bytealg.MakeNoZero"], plainKeys := false, apart := false, narrowed := true }
def FnExactScheduleTextUptoSaid : Prop := fnExactScheduleTextUptoRow.holds Try.pinned (OpenSpec.upto fnExactScheduleTextSpec)

end Rows
end Go.Proofs.Ytaflkbemecjcpaa
