/- Powers of two, and whether a list has a number: contracts. -/
import Derived.Test.YtaflkbemecjcpaaReads
namespace Go.Proofs.Ytaflkbemecjcpaa
set_option linter.unusedSimpArgs false
set_option linter.unusedVariables false
open Go.RowKit
theorem any_take_one {α : Type} (p : α → Bool) {l : List α} {j : Nat} (hj : j < l.length) : (l.take (j + 1)).any p = ((l.take j).any p || p l[j]) := by
  rw [List.take_succ_eq_append_getElem hj, List.any_append]; simp
set_option maxHeartbeats 400000 in
theorem spec_hasInt_any (A : Option Addr) (c : Nat) (l : List Int) (x : Int) (w : World) (hl : l.length ≤ maxLen) (hR : RdI w w.heap.size A l) :
    Calls Try.prog 97 #[.slice A l.length c, .int .i64 x] w fun e w' => e = .returned (.bool (l.contains x)) ∧ w = w' := by
  unfold maxLen at hl
  obtain ⟨r, hr⟩ : ∃ r, r = l.contains x := ⟨_, rfl⟩
  rw [← hr]
  have HR := Lib.hid hr; clear hr
  go_enter Try.func97, Try.ntmps97
  go_wp2_with fail
  go_loop [5] (fun i => ∃ k : Nat, k ≤ l.length ∧ i = .int .i64 k ∧ (l.take k).contains x = false) (fun i => l.length - (intOf i).toNat)
  case atStart => exact ⟨0, Nat.zero_le _, rfl, rfl⟩
  case round =>
    obtain ⟨k, hk, rfl, hall⟩ := hrel
    have HA := Lib.hid hall; clear hall
    by_cases hlt : k < l.length
    · obtain ⟨b, off, rfl, hb, h0⟩ := hR.at_ hlt
      cases e1 : (l[k] == x)
      · have HN := Lib.hid (show (l.take (k + 1)).contains x = false by
          rw [List.contains_eq_any_beq, any_take_one _ hlt, ← List.contains_eq_any_beq, HA.out, Bool.false_or, Bool.eq_false_iff]
          intro h; simp at h e1; exact e1 h.symm)
        go_wp2
        exact ⟨⟨k + 1, by omega, by go_num, HN.out⟩, by simp [intOf]; omega⟩
      · have HY := Lib.hid (show l.contains x = true by
          rw [List.contains_iff_mem]
          have := eq_of_beq e1
          exact this ▸ List.getElem_mem hlt)
        go_wp2
        go_ret
        exact ⟨ret_bool (HR.out.trans HY.out).symm, rfl⟩
    · have hk' : k = l.length := by omega
      have HK := Lib.hid hk'; clear hk'
      go_wp2
      go_ret
      exact ⟨ret_bool (by have h := HA.out; rw [HK.out, List.take_length] at h; exact (HR.out.trans h).symm), rfl⟩
def pwN (k : Nat) : Int := 2 ^ k
set_option maxHeartbeats 400000 in
theorem spec_power_any (n : Nat) (w : World) (hn : n ≤ 3) :
    Calls Try.prog 71 #[.int .i64 n] w fun e w' => e = .returned (.int .i64 (pwN n)) ∧ w = w' := by
  go_enter Try.func71, Try.ntmps71
  go_wp2_with fail
  go_loop [0, 3] (fun v0 v3 => ∃ k : Nat, k ≤ n ∧ v0 = .int .i64 ((n : Int) - k) ∧ v3 = .int .i64 (pwN k)) (fun v0 _ => (intOf v0).toNat)
  case atStart => exact ⟨0, Nat.zero_le _, by simp, rfl⟩
  case round =>
    obtain ⟨k, hk, rfl, rfl⟩ := hrel
    by_cases hlt : k < n
    · have hp1 : 0 ≤ pwN k := by rcases (show k = 0 ∨ k = 1 ∨ k = 2 by omega) with rfl | rfl | rfl <;> decide
      have hp2 : pwN k ≤ 8 := by rcases (show k = 0 ∨ k = 1 ∨ k = 2 by omega) with rfl | rfl | rfl <;> decide
      have HP := Lib.hid (show pwN (k + 1) = 2 * pwN k by rcases (show k = 0 ∨ k = 1 ∨ k = 2 by omega) with rfl | rfl | rfl <;> decide)
      go_wp2
      exact ⟨⟨k + 1, by omega, by go_num, by rw [HP.out]; try go_num⟩, by simp [intOf]; omega⟩
    · have hk' : k = n := by omega
      subst hk'
      go_wp2
      go_ret
      exact ⟨rfl, rfl⟩
set_option maxHeartbeats 400000 in
theorem laws_power_any (n : Nat) (w : World) (hn : n ≤ 3) :
    Calls Try.prog 24 #[.int .i64 n] w fun e w' => e = .returned (.int .i64 (pwN n)) ∧ w = w' := by
  go_enter Try.func24, Try.ntmps24
  go_wp2_with fail
  go_loop [0, 3] (fun v0 v3 => ∃ k : Nat, k ≤ n ∧ v0 = .int .i64 ((n : Int) - k) ∧ v3 = .int .i64 (pwN k)) (fun v0 _ => (intOf v0).toNat)
  case atStart => exact ⟨0, Nat.zero_le _, by simp, rfl⟩
  case round =>
    obtain ⟨k, hk, rfl, rfl⟩ := hrel
    by_cases hlt : k < n
    · have hp1 : 0 ≤ pwN k := by rcases (show k = 0 ∨ k = 1 ∨ k = 2 by omega) with rfl | rfl | rfl <;> decide
      have hp2 : pwN k ≤ 8 := by rcases (show k = 0 ∨ k = 1 ∨ k = 2 by omega) with rfl | rfl | rfl <;> decide
      have HP := Lib.hid (show pwN (k + 1) = 2 * pwN k by rcases (show k = 0 ∨ k = 1 ∨ k = 2 by omega) with rfl | rfl | rfl <;> decide)
      go_wp2
      exact ⟨⟨k + 1, by omega, by go_num, by rw [HP.out]; try go_num⟩, by simp [intOf]; omega⟩
    · have hk' : k = n := by omega
      subst hk'
      go_wp2
      go_ret
      exact ⟨rfl, rfl⟩
end Go.Proofs.Ytaflkbemecjcpaa
