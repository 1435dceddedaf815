/- Contracts of the functions that pick operations out of a schedule: OpsOf, CommittedOf, the reference's and the program's. -/
import Derived.Test.YtejipiadapggmaaSch
namespace Go.Proofs.Ytejipiadapggmaa
set_option linter.unusedSimpArgs false
set_option linter.unusedVariables false
open Go.RowKit

theorem info_O : (Try.prog.info? 60).map (fun i => (i.zero, i.size, i.bytes)) = some (some (.agg #[.int .i64 0, .int .i64 0, .int .i64 0]), 3, 24) := by kernel_rfl
theorem info_I : (Try.prog.info? 3).map (fun i => (i.zero, i.size, i.bytes)) = some (some (.int .i64 0), 1, 8) := by kernel_rfl




/-- The operations of those that commit. -/
def comL (l : List O3) : List O3 := l.filter fun o => endL l o.tx == 2
theorem comL_len (l : List O3) : (comL l).length ≤ l.length := List.length_filter_le _ _
/-- CommittedOf's value. -/
noncomputable def comV (l : List O3) : List O3 := if tt (ValidP l) = true then comL l else []
theorem comV_len (l : List O3) (hl : l.length ≤ 1048576) : (comV l).length ≤ 1048576 := by
  unfold comV; split
  · exact Nat.le_trans (comL_len l) hl
  · simp
end Go.Proofs.Ytejipiadapggmaa
