/- Plain words: operations and steps as three numbers, schedules as lists; what the program's functions compute. No program in sight. -/
import Derived.WalkKit
namespace Go.Proofs.Ytgmpjogonifjeaa
set_option linter.unusedSimpArgs false
set_option linter.unusedVariables false

/-- An operation or a step: its transaction, its kind, its item. -/
structure O3 where
  tx : Int
  kind : Int
  item : Int

namespace O3
def val (o : O3) : Value := .agg #[.int .i64 o.tx, .int .i64 o.kind, .int .i64 o.item]
def eqb (a b : O3) : Bool := a.tx == b.tx && (a.kind == b.kind && a.item == b.item)
theorem eqb_iff (a b : O3) : a.eqb b = true ↔ a = b := by
  cases a; cases b; simp [eqb]
theorem eqb_self (a : O3) : a.eqb a = true := by simp [eqb]
end O3

/-- A number lies between two others. -/
def inR (n lo hi : Int) : Bool := decide (lo ≤ n ∧ n ≤ hi)
def accB (o : O3) : Bool := o.kind == 0 || o.kind == 1
def endB (o : O3) : Bool := o.kind == 2 || o.kind == 3
def validB (o : O3) : Bool := inR o.tx 0 3 && (accB o && inR o.item 0 2 || endB o && o.item == 0)
def conflB (a b : O3) : Bool := a.tx != b.tx && (accB a && (accB b && (a.item == b.item && (a.kind == 1 || b.kind == 1))))
/-- The reference's: it asks that neither ends. -/
def conflS (a b : O3) : Bool := a.tx != b.tx && (!endB a && (!endB b && (a.item == b.item && (a.kind == 1 || b.kind == 1))))

theorem validB_kind {o : O3} (h : validB o = true) : accB o = !endB o := by
  unfold validB accB endB inR at *
  by_cases h0 : o.kind = 0 <;> by_cases h1 : o.kind = 1 <;> by_cases h2 : o.kind = 2 <;> by_cases h3 : o.kind = 3 <;> simp_all
theorem confl_same {a b : O3} (ha : validB a = true) (hb : validB b = true) : conflS a b = conflB a b := by
  simp [conflS, conflB, validB_kind ha, validB_kind hb]
theorem confl_comm (a b : O3) : conflB a b = conflB b a := by
  unfold conflB
  have e1 : (a.tx != b.tx) = (b.tx != a.tx) := by simp [bne, BEq.comm]
  have e2 : (a.item == b.item) = (b.item == a.item) := BEq.comm
  rw [e1, e2]
  cases accB a <;> cases accB b <;> simp [Bool.or_comm]
theorem confl_self (a : O3) : conflB a a = false := by simp [conflB]
end Go.Proofs.Ytgmpjogonifjeaa
