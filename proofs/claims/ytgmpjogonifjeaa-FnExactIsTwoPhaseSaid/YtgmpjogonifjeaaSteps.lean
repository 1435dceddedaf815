/- Contracts of ValidSteps, the reference's and the program's. -/
import Derived.Test.YtgmpjogonifjeaaOps
namespace Go.Proofs.Ytgmpjogonifjeaa
set_option linter.unusedSimpArgs false
set_option linter.unusedVariables false
open Go.RowKit

set_option maxHeartbeats 400000 in
theorem spec_validSteps_any (A : Option Addr) (c : Nat) (l : List O3) (w : World) (hl : l.length ≤ maxLen) (hR : RdO w w.heap.size A l) :
    Calls Try.prog 26 #[.slice A l.length c] w fun e w' => e = .returned (.bool (stepsB l)) ∧ w = w' := by
  unfold maxLen at hl
  go_enter Try.func26, Try.ntmps26
  go_wp2_with fail
  go_loop [3] (fun i => ∃ k : Nat, k ≤ l.length ∧ i = .int .i64 k ∧ (l.take k).all stepB = true) (fun i => l.length - (intOf i).toNat)
  case atStart => exact ⟨0, Nat.zero_le _, rfl, rfl⟩
  case round =>
    obtain ⟨k, hk, rfl, hall⟩ := hrel
    have HA := Lib.hid hall; clear hall
    by_cases hlt : k < l.length
    · obtain ⟨b, off, rfl, hb, h0, h1, h2⟩ := hR.at_ hlt
      go_wp2_with (go_at_call 34; refine (spec_inRange_any _ _ _ _).mono ?_; rintro e w' ⟨rfl, rfl⟩)
      all_goals first
        | (go_ret; exact ⟨ret_bool (by rw [stepsB, all_false (p := stepB) hlt (by simp_all [stepB])]; rfl), rfl⟩)
        | (exact ⟨⟨k + 1, by omega, by go_num, take_all_succ hlt HA.out (by simp_all [stepB])⟩, by simp [intOf]; omega⟩)
    · have hk' : k = l.length := by omega
      have HK := Lib.hid hk'; clear hk'
      go_wp2
      go_ret
      exact ⟨ret_bool (by have h := HA.out; rw [HK.out] at h; rw [stepsB, take_all h]; simp; omega), rfl⟩

set_option maxHeartbeats 400000 in
theorem IndexFunc_Step_any (A : Option Addr) (c : Nat) (l : List O3) (F : FuncId) (caps : Array Value) (p : O3 → Bool) (w : World) (hl : l.length ≤ maxLen) (hR : RdO w w.heap.size A l) (hF : TestOn Try.prog F caps w p l) :
    Calls Try.prog 39 #[.slice A l.length c, .func (.func F) #[] caps] w fun e w' => e = .returned (.int .i64 (idxB p l)) ∧ Below w.heap.size w w' := by
  unfold maxLen at hl
  have hgo := hF.go
  go_enter Try.func39, Try.ntmps39
  go_wp2_with fail
  go_loopw [8] (fun i wr => ∃ k : Nat, k ≤ l.length ∧ i = .int .i64 k ∧ (l.take k).findIdx? p = none ∧ Below w.heap.size w wr) (fun i _ => l.length - (intOf i).toNat)
  case atStart => exact ⟨0, Nat.zero_le _, rfl, rfl, Below.refl _ _⟩
  case round =>
    obtain ⟨k, hk, rfl, hall, hbw⟩ := hrel
    have HA := Lib.hid hall; clear hall
    by_cases hlt : k < l.length
    · obtain ⟨b, off, rfl, hb, h0, h1, h2⟩ := (hR.on hbw).at_ hlt
      have hc := hF.test l[k] (List.getElem_mem hlt) _ hbw
      have HC := Lib.hid hc; clear hc
      go_wp2_with (refine (HC.out).mono ?_; rintro e w1 ⟨rfl, hb1⟩)
      all_goals first
        | (go_ret; exact ⟨ret_int (idx_hit hlt HA.out (by assumption)), by (repeat' (first | (with_reducible exact Below.refl _ _) | (with_reducible assumption) | (with_reducible refine Below.al ?_ _) | (with_reducible refine Below.drew ?_) | (with_reducible refine Below.drN ?_ _) | (with_reducible refine Below.via (by with_reducible assumption) ?_) | (with_reducible refine Below.setc ?_ ?_ _) | (with_reducible exact Nat.le_refl _) | (simp; done) | (simp; omega)))⟩)
        | (exact ⟨⟨k + 1, by omega, by go_num, idx_on hlt HA.out (by assumption), by (repeat' (first | (with_reducible exact Below.refl _ _) | (with_reducible assumption) | (with_reducible refine Below.al ?_ _) | (with_reducible refine Below.drew ?_) | (with_reducible refine Below.drN ?_ _) | (with_reducible refine Below.via (by with_reducible assumption) ?_) | (with_reducible refine Below.setc ?_ ?_ _) | (with_reducible exact Nat.le_refl _) | (simp; done) | (simp; omega)))⟩, by simp [intOf]; omega⟩)
    · have hk' : k = l.length := by omega
      have HK := Lib.hid hk'; clear hk'
      go_wp2
      go_ret
      exact ⟨ret_int (idx_none (by have h := HA.out; rwa [HK.out, List.take_length] at h)), by (repeat' (first | (with_reducible exact Below.refl _ _) | (with_reducible assumption) | (with_reducible refine Below.al ?_ _) | (with_reducible refine Below.drew ?_) | (with_reducible refine Below.drN ?_ _) | (with_reducible refine Below.via (by with_reducible assumption) ?_) | (with_reducible refine Below.setc ?_ ?_ _) | (with_reducible exact Nat.le_refl _) | (simp; done) | (simp; omega)))⟩
set_option maxHeartbeats 400000 in
theorem ContainsFunc_Step_any (A : Option Addr) (c : Nat) (l : List O3) (F : FuncId) (caps : Array Value) (p : O3 → Bool) (w : World) (hl : l.length ≤ maxLen) (hR : RdO w w.heap.size A l) (hF : TestOn Try.prog F caps w p l) :
    Calls Try.prog 28 #[.slice A l.length c, .func (.func F) #[] caps] w fun e w' => e = .returned (.bool (l.any p)) ∧ Below w.heap.size w w' := by
  have HF := Lib.hid hF; clear hF
  go_enter Try.func28, Try.ntmps28
  go_wp2_with (go_at_call 39; refine (IndexFunc_Step_any _ _ _ _ _ p _ hl hR HF.out).mono ?_; rintro e w1 ⟨rfl, hb1⟩)
  go_ret
  exact ⟨ret_bool (idx_any p l), by (repeat' (first | (with_reducible exact Below.refl _ _) | (with_reducible assumption) | (with_reducible refine Below.al ?_ _) | (with_reducible refine Below.drew ?_) | (with_reducible refine Below.drN ?_ _) | (with_reducible refine Below.via (by with_reducible assumption) ?_) | (with_reducible refine Below.setc ?_ ?_ _) | (with_reducible exact Nat.le_refl _) | (simp; done) | (simp; omega)))⟩

set_option maxHeartbeats 400000 in
theorem impl_ValidSteps1_any (a b c : Int) (w : World) :
    Calls Try.prog 29 #[.agg #[.int .i64 a, .int .i64 b, .int .i64 c]] w fun e w' => e = .returned (.bool (!stepB ⟨a, b, c⟩)) ∧ Below w.heap.size w w' := by
  go_enter Try.func29, Try.ntmps29
  go_wp2_with (go_at_call 30; refine (impl_within_any _ _ _ _).mono ?_; rintro e w' ⟨rfl, rfl⟩)
  all_goals go_ret
  all_goals refine ⟨ret_bool ?_, by (repeat' (first | (with_reducible exact Below.refl _ _) | (with_reducible assumption) | (with_reducible refine Below.al ?_ _) | (with_reducible refine Below.drew ?_) | (with_reducible refine Below.drN ?_ _) | (with_reducible refine Below.via (by with_reducible assumption) ?_) | (with_reducible refine Below.setc ?_ ?_ _) | (with_reducible exact Nat.le_refl _) | (simp; done) | (simp; omega)))⟩
  all_goals simp_all [stepB]

theorem impl_ValidSteps1_test (w : World) (l : List O3) : TestOn Try.prog 29 #[] w (fun o => !stepB o) l :=
  ⟨Try.call29, fun o _ w1 _ => impl_ValidSteps1_any o.tx o.kind o.item w1⟩

set_option maxHeartbeats 400000 in
theorem impl_ValidSteps_any (A : Option Addr) (c : Nat) (l : List O3) (w : World) (hl : l.length ≤ maxLen) (hR : RdO w w.heap.size A l) :
    Calls Try.prog 15 #[.slice A l.length c] w fun e w' => e = .returned (.bool (stepsB l)) ∧ Below w.heap.size w w' := by
  have HL := Lib.hid hl
  unfold maxLen at hl
  go_enter Try.func15, Try.ntmps15
  go_wp2_with (go_at_call 28; refine (ContainsFunc_Step_any _ _ _ _ _ _ _ HL.out hR (impl_ValidSteps1_test _ _)).mono ?_; rintro e w1 ⟨rfl, hb1⟩)
  all_goals go_ret
  all_goals refine ⟨ret_bool ?_, by (repeat' (first | (with_reducible exact Below.refl _ _) | (with_reducible assumption) | (with_reducible refine Below.al ?_ _) | (with_reducible refine Below.drew ?_) | (with_reducible refine Below.drN ?_ _) | (with_reducible refine Below.via (by with_reducible assumption) ?_) | (with_reducible refine Below.setc ?_ ?_ _) | (with_reducible exact Nat.le_refl _) | (simp; done) | (simp; omega)))⟩
  all_goals simp only [stepsB, any_not]
  · have h : l.length ≤ 40 := by omega
    simp [h]
  · have h : ¬ l.length ≤ 40 := by omega
    simp [h]
set_option maxHeartbeats 400000 in
theorem spec_ValidSteps_any (A : Option Addr) (c : Nat) (l : List O3) (w : World) (hl : l.length ≤ maxLen) (hR : RdO w w.heap.size A l) :
    Calls Try.prog 13 #[.slice A l.length c] w fun e w' => e = .returned (.bool (stepsB l)) ∧ w = w' := by
  go_enter Try.func13, Try.ntmps13
  go_wp2_with (go_at_call 26; refine (spec_validSteps_any _ _ _ _ hl hR).mono ?_; rintro e w1 ⟨rfl, rfl⟩)
  go_ret
  exact ⟨rfl, rfl⟩
end Go.Proofs.Ytgmpjogonifjeaa
