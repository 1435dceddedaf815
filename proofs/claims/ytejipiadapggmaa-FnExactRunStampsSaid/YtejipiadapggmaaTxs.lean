/- Contracts of the functions that list transactions: TxsOf, StampsOf, the reference's and the program's. -/
import Derived.Test.YtejipiadapggmaaFilt
import Derived.Test.YtejipiadapggmaaFind
namespace Go.Proofs.Ytejipiadapggmaa
set_option linter.unusedSimpArgs false
set_option linter.unusedVariables false
open Go.RowKit

set_option maxHeartbeats 400000 in
theorem Index_int_any (A : Option Addr) (c : Nat) (l : List Int) (x : Int) (w : World) (hl : l.length ≤ maxLen) (hR : RdI w w.heap.size A l) :
    Calls Try.prog 61 #[.slice A l.length c, .int .i64 x] w fun e w' => e = .returned (.int .i64 (idxB (fun y => x == y) l)) ∧ w = w' := by
  unfold maxLen at hl
  go_enter Try.func61, Try.ntmps61
  go_wp2_with fail
  go_loop [8] (fun i => ∃ k : Nat, k ≤ l.length ∧ i = .int .i64 k ∧ (l.take k).findIdx? (fun y => x == y) = none) (fun i => l.length - (intOf i).toNat)
  case atStart => exact ⟨0, Nat.zero_le _, rfl, rfl⟩
  case round =>
    obtain ⟨k, hk, rfl, hall⟩ := hrel
    have HA := Lib.hid hall; clear hall
    by_cases hlt : k < l.length
    · obtain ⟨b, off, rfl, hb, h0⟩ := hR.at_ hlt
      cases e1 : (x == l[k])
      · go_wp2
        exact ⟨⟨k + 1, by omega, by go_num, idx_on hlt HA.out e1⟩, by simp [intOf]; omega⟩
      · go_wp2
        go_ret
        exact ⟨ret_int (idx_hit hlt HA.out e1), rfl⟩
    · have hk' : k = l.length := by omega
      have HK := Lib.hid hk'; clear hk'
      go_wp2
      go_ret
      exact ⟨ret_int (idx_none (by have h := HA.out; rwa [HK.out, List.take_length] at h)), rfl⟩
theorem any_eqs (x : Int) (l : List Int) : l.any (fun y => x == y) = l.contains x := by
  rw [List.contains_eq_any_beq]
set_option maxHeartbeats 400000 in
theorem Contains_int_any (A : Option Addr) (c : Nat) (l : List Int) (x : Int) (w : World) (hl : l.length ≤ maxLen) (hR : RdI w w.heap.size A l) :
    Calls Try.prog 34 #[.slice A l.length c, .int .i64 x] w fun e w' => e = .returned (.bool (l.contains x)) ∧ w = w' := by
  go_enter Try.func34, Try.ntmps34
  go_wp2_with (go_at_call 61; refine (Index_int_any _ _ _ _ _ hl hR).mono ?_; rintro e w1 ⟨rfl, rfl⟩)
  go_ret
  exact ⟨ret_bool ((idx_any _ _).trans (any_eqs x l)), rfl⟩

/-- The transactions of a schedule, ascending. -/
def hasTx (l : List O3) (t : Int) : Bool := l.any fun o => o.tx == t
def txsTo (l : List O3) (k : Nat) : List Int := ((List.range k).map fun i : Nat => (i : Int)).filter (hasTx l)
def txsL (l : List O3) : List Int := txsTo l 4
theorem txsTo_yes {l : List O3} {k : Nat} (h : hasTx l k = true) : txsTo l (k + 1) = txsTo l k ++ [(k : Int)] := by
  unfold txsTo
  rw [List.range_succ, List.map_append, List.filter_append]
  simp [h]
theorem txsTo_no {l : List O3} {k : Nat} (h : hasTx l k = false) : txsTo l (k + 1) = txsTo l k := by
  unfold txsTo
  rw [List.range_succ, List.map_append, List.filter_append]
  simp [h]
theorem txsTo_le (l : List O3) (k : Nat) : (txsTo l k).length ≤ k := by
  unfold txsTo
  exact Nat.le_trans (List.length_filter_le _ _) (by simp)

/-- TxsOf's value. -/
noncomputable def txsV (l : List O3) : List Int := if tt (ValidP l) = true then txsL l else []
theorem txsV_len (l : List O3) (hl : l.length ≤ 1048576) : (txsV l).length ≤ 1048576 := by
  unfold txsV; split
  · have := txsTo_le l 4; unfold txsL; omega
  · simp

/-! ### StampsOf -/
def stampsTo (l : List O3) (k : Nat) : List Int := (l.take k).foldl (fun acc o => if acc.contains o.tx then acc else acc ++ [o.tx]) []
def stampsL (l : List O3) : List Int := stampsTo l l.length
theorem stampsTo_succ {l : List O3} {k : Nat} (hk : k < l.length) : stampsTo l (k + 1) = if (stampsTo l k).contains l[k].tx then stampsTo l k else stampsTo l k ++ [l[k].tx] := by
  unfold stampsTo
  rw [List.take_succ_eq_append_getElem hk, List.foldl_append]
  rfl
theorem stampsTo_le (l : List O3) (k : Nat) (hk : k ≤ l.length) : (stampsTo l k).length ≤ k := by
  induction k with
  | zero => simp [stampsTo]
  | succ k ih =>
    rw [stampsTo_succ (by omega)]
    have := ih (by omega)
    split <;> simp <;> omega
theorem stampsTo_mem {l : List O3} {k : Nat} (hk : k ≤ l.length) (t : Int) : (stampsTo l k).contains t = true ↔ ∃ j, ∃ h : j < l.length, j < k ∧ l[j].tx = t := by
  induction k with
  | zero => simp [stampsTo]
  | succ k ih =>
    have ih' := ih (by omega)
    have hkl : k < l.length := by omega
    rw [stampsTo_succ hkl]
    have step : (∃ j, ∃ h : j < l.length, j < k + 1 ∧ l[j].tx = t) ↔ ((∃ j, ∃ h : j < l.length, j < k ∧ l[j].tx = t) ∨ l[k].tx = t) := by
      constructor
      · rintro ⟨j, h, hj, e⟩
        by_cases ej : j = k
        · subst ej; exact .inr e
        · exact .inl ⟨j, h, by omega, e⟩
      · rintro (⟨j, h, hj, e⟩ | e)
        · exact ⟨j, h, by omega, e⟩
        · exact ⟨k, hkl, by omega, e⟩
    rw [step, ← ih']
    split
    · rename_i hc
      constructor
      · exact .inl
      · rintro (h | h)
        · exact h
        · rw [← h]; exact hc
    · simp only [List.contains_eq_mem, List.mem_append, List.mem_singleton, decide_eq_true_eq]
      constructor
      · rintro (h | h)
        · exact .inl h
        · exact .inr h.symm
      · rintro (h | h)
        · exact .inl h
        · exact .inr h.symm
/-- The place of the first operation of a transaction. -/
def firstOf (l : List O3) (t : Int) : Nat := (l.findIdx? fun o => o.tx == t).getD l.length
theorem first_iff {l : List O3} {k : Nat} (hk : k < l.length) : (firstOf l l[k].tx = k) ↔ (stampsTo l k).contains l[k].tx = false := by
  rw [Bool.eq_false_iff, Ne, stampsTo_mem (by omega)]
  unfold firstOf
  have hex : ∃ i, l.findIdx? (fun o => o.tx == l[k].tx) = some i := by
    cases h : l.findIdx? (fun o => o.tx == l[k].tx) with
    | none =>
      have := List.findIdx?_eq_none_iff.1 h l[k] (List.getElem_mem hk)
      simp at this
    | some i => exact ⟨i, rfl⟩
  obtain ⟨i, hi⟩ := hex
  obtain ⟨h1, h2, h3⟩ := List.findIdx?_eq_some_iff_getElem.1 hi
  rw [hi, Option.getD_some]
  constructor
  · rintro rfl ⟨j, hj, hjk, e⟩
    have := h3 j hjk
    simp [e] at this
  · intro h
    rcases Nat.lt_trichotomy i k with h4 | h4 | h4
    · exact absurd ⟨i, h1, h4, by simpa using h2⟩ h
    · exact h4
    · have := h3 k h4
      simp at this
set_option maxHeartbeats 400000 in
theorem spec_stampOf_any (A : Option Addr) (c : Nat) (l : List O3) (t : Int) (w : World) (hl : l.length ≤ maxLen) (hR : RdO w w.heap.size A l) :
    Calls Try.prog 63 #[.slice A l.length c, .int .i64 t] w fun e w' => e = .returned (.int .i64 (firstOf l t)) ∧ w = w' := by
  unfold maxLen at hl
  go_enter Try.func63, Try.ntmps63
  go_wp2_with fail
  go_loop [5] (fun i => ∃ k : Nat, k ≤ l.length ∧ i = .int .i64 k ∧ (l.take k).findIdx? (fun o => o.tx == t) = none) (fun i => l.length - (intOf i).toNat)
  case atStart => exact ⟨0, Nat.zero_le _, rfl, rfl⟩
  case round =>
    obtain ⟨k, hk, rfl, hall⟩ := hrel
    have HA := Lib.hid hall; clear hall
    by_cases hlt : k < l.length
    · obtain ⟨b, off, rfl, hb, h0, h1, h2⟩ := hR.at_ hlt
      cases e1 : (l[k].tx == t)
      · go_wp2
        exact ⟨⟨k + 1, by omega, by go_num, idx_on (p := fun o : O3 => o.tx == t) hlt HA.out e1⟩, by simp [intOf]; omega⟩
      · go_wp2
        go_ret
        refine ⟨ret_int ?_, rfl⟩
        have h := idx_hit (p := fun o : O3 => o.tx == t) hlt HA.out e1
        unfold idxB at h
        unfold firstOf
        cases hf : l.findIdx? (fun o => o.tx == t) with
        | none => rw [hf] at h; exfalso; revert h; simp; try omega
        | some i => rw [hf] at h; simpa using h
    · have hk' : k = l.length := by omega
      have HK := Lib.hid hk'; clear hk'
      go_wp2
      go_ret
      refine ⟨ret_int ?_, rfl⟩
      have h := HA.out
      rw [HK.out, List.take_length] at h
      rw [firstOf, h]
      rfl
/-- StampsOf's value. -/
noncomputable def stampsV (l : List O3) : List Int := if tt (ValidP l) = true then stampsL l else []
theorem stampsV_len (l : List O3) (hl : l.length ≤ 1048576) : (stampsV l).length ≤ 1048576 := by
  unfold stampsV; split
  · have := stampsTo_le l l.length (Nat.le_refl _); unfold stampsL; omega
  · simp
end Go.Proofs.Ytejipiadapggmaa
