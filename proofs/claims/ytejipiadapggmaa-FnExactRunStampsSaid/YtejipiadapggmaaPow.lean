/- Powers of two, and whether a list has a number: contracts. -/
import Derived.Test.YtejipiadapggmaaReads
namespace Go.Proofs.Ytejipiadapggmaa
set_option linter.unusedSimpArgs false
set_option linter.unusedVariables false
open Go.RowKit
theorem any_take_one {α : Type} (p : α → Bool) {l : List α} {j : Nat} (hj : j < l.length) : (l.take (j + 1)).any p = ((l.take j).any p || p l[j]) := by
  rw [List.take_succ_eq_append_getElem hj, List.any_append]; simp
set_option maxHeartbeats 400000 in
theorem spec_hasInt_any (A : Option Addr) (c : Nat) (l : List Int) (x : Int) (w : World) (hl : l.length ≤ maxLen) (hR : RdI w w.heap.size A l) :
    Calls Try.prog 64 #[.slice A l.length c, .int .i64 x] w fun e w' => e = .returned (.bool (l.contains x)) ∧ w = w' := by
  unfold maxLen at hl
  obtain ⟨r, hr⟩ : ∃ r, r = l.contains x := ⟨_, rfl⟩
  rw [← hr]
  have HR := Lib.hid hr; clear hr
  go_enter Try.func64, Try.ntmps64
  go_wp2_with fail
  go_loop [5] (fun i => ∃ k : Nat, k ≤ l.length ∧ i = .int .i64 k ∧ (l.take k).contains x = false) (fun i => l.length - (intOf i).toNat)
  case atStart => exact ⟨0, Nat.zero_le _, rfl, rfl⟩
  case round =>
    obtain ⟨k, hk, rfl, hall⟩ := hrel
    have HA := Lib.hid hall; clear hall
    by_cases hlt : k < l.length
    · obtain ⟨b, off, rfl, hb, h0⟩ := hR.at_ hlt
      cases e1 : (l[k] == x)
      · have HN := Lib.hid (show (l.take (k + 1)).contains x = false by
          rw [List.contains_eq_any_beq, any_take_one _ hlt, ← List.contains_eq_any_beq, HA.out, Bool.false_or, Bool.eq_false_iff]
          intro h; simp at h e1; exact e1 h.symm)
        go_wp2
        exact ⟨⟨k + 1, by omega, by go_num, HN.out⟩, by simp [intOf]; omega⟩
      · have HY := Lib.hid (show l.contains x = true by
          rw [List.contains_iff_mem]
          have := eq_of_beq e1
          exact this ▸ List.getElem_mem hlt)
        go_wp2
        go_ret
        exact ⟨ret_bool (HR.out.trans HY.out).symm, rfl⟩
    · have hk' : k = l.length := by omega
      have HK := Lib.hid hk'; clear hk'
      go_wp2
      go_ret
      exact ⟨ret_bool (by have h := HA.out; rw [HK.out, List.take_length] at h; exact (HR.out.trans h).symm), rfl⟩
def pwN (k : Nat) : Int := 2 ^ k
end Go.Proofs.Ytejipiadapggmaa
