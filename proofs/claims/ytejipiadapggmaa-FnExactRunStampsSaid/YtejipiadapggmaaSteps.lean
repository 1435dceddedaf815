/- Contracts of ValidSteps, the reference's and the program's. -/
import Derived.Test.YtejipiadapggmaaFind
namespace Go.Proofs.Ytejipiadapggmaa
set_option linter.unusedSimpArgs false
set_option linter.unusedVariables false
open Go.RowKit

set_option maxHeartbeats 400000 in
theorem spec_validSteps_any (A : Option Addr) (c : Nat) (l : List O3) (w : World) (hl : l.length ≤ maxLen) (hR : RdO w w.heap.size A l) :
    Calls Try.prog 29 #[.slice A l.length c] w fun e w' => e = .returned (.bool (stepsB l)) ∧ w = w' := by
  unfold maxLen at hl
  go_enter Try.func29, Try.ntmps29
  go_wp2_with fail
  go_loop [3] (fun i => ∃ k : Nat, k ≤ l.length ∧ i = .int .i64 k ∧ (l.take k).all stepB = true) (fun i => l.length - (intOf i).toNat)
  case atStart => exact ⟨0, Nat.zero_le _, rfl, rfl⟩
  case round =>
    obtain ⟨k, hk, rfl, hall⟩ := hrel
    have HA := Lib.hid hall; clear hall
    by_cases hlt : k < l.length
    · obtain ⟨b, off, rfl, hb, h0, h1, h2⟩ := hR.at_ hlt
      go_wp2_with (go_at_call 56; refine (spec_inRange_any _ _ _ _).mono ?_; rintro e w' ⟨rfl, rfl⟩)
      all_goals first
        | (go_ret; exact ⟨ret_bool (by rw [stepsB, all_false (p := stepB) hlt (by simp_all [stepB])]; rfl), rfl⟩)
        | (exact ⟨⟨k + 1, by omega, by go_num, take_all_succ hlt HA.out (by simp_all [stepB])⟩, by simp [intOf]; omega⟩)
    · have hk' : k = l.length := by omega
      have HK := Lib.hid hk'; clear hk'
      go_wp2
      go_ret
      exact ⟨ret_bool (by have h := HA.out; rw [HK.out] at h; rw [stepsB, take_all h]; simp; omega), rfl⟩


set_option maxHeartbeats 400000 in
theorem impl_ValidSteps1_any (a b c : Int) (w : World) :
    Calls Try.prog 58 #[.agg #[.int .i64 a, .int .i64 b, .int .i64 c]] w fun e w' => e = .returned (.bool (!stepB ⟨a, b, c⟩)) ∧ Below w.heap.size w w' := by
  go_enter Try.func58, Try.ntmps58
  go_wp2_with (go_at_call 59; refine (impl_within_any _ _ _ _).mono ?_; rintro e w' ⟨rfl, rfl⟩)
  all_goals go_ret
  all_goals refine ⟨ret_bool ?_, by (repeat' (first | (with_reducible exact Below.refl _ _) | (with_reducible assumption) | (with_reducible refine Below.al ?_ _) | (with_reducible refine Below.drew ?_) | (with_reducible refine Below.drN ?_ _) | (with_reducible refine Below.via (by with_reducible assumption) ?_) | (with_reducible refine Below.setc ?_ ?_ _) | (with_reducible exact Nat.le_refl _) | (simp; done) | (simp; omega)))⟩
  all_goals simp_all [stepB]

theorem impl_ValidSteps1_test (w : World) (l : List O3) : TestOn Try.prog 58 #[] w (fun o => !stepB o) l :=
  ⟨Try.call58, fun o _ w1 _ => impl_ValidSteps1_any o.tx o.kind o.item w1⟩

set_option maxHeartbeats 400000 in
theorem impl_ValidSteps_any (A : Option Addr) (c : Nat) (l : List O3) (w : World) (hl : l.length ≤ maxLen) (hR : RdO w w.heap.size A l) :
    Calls Try.prog 31 #[.slice A l.length c] w fun e w' => e = .returned (.bool (stepsB l)) ∧ Below w.heap.size w w' := by
  have HL := Lib.hid hl
  unfold maxLen at hl
  go_enter Try.func31, Try.ntmps31
  go_wp2_with (go_at_call 57; refine (ContainsFunc_Step_any _ _ _ _ _ _ _ HL.out hR (impl_ValidSteps1_test _ _)).mono ?_; rintro e w1 ⟨rfl, hb1⟩)
  all_goals go_ret
  all_goals refine ⟨ret_bool ?_, by (repeat' (first | (with_reducible exact Below.refl _ _) | (with_reducible assumption) | (with_reducible refine Below.al ?_ _) | (with_reducible refine Below.drew ?_) | (with_reducible refine Below.drN ?_ _) | (with_reducible refine Below.via (by with_reducible assumption) ?_) | (with_reducible refine Below.setc ?_ ?_ _) | (with_reducible exact Nat.le_refl _) | (simp; done) | (simp; omega)))⟩
  all_goals simp only [stepsB, any_not]
  · have h : l.length ≤ 40 := by omega
    simp [h]
  · have h : ¬ l.length ≤ 40 := by omega
    simp [h]
end Go.Proofs.Ytejipiadapggmaa
