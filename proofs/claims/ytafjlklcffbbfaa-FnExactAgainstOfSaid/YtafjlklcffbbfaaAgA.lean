/- Who writes what a survivor reads: the plain side, and contracts of the small functions. -/
import Derived.Test.YtafjlklcffbbfaaVerU
namespace Go.Proofs.Ytafjlklcffbbfaa
set_option linter.unusedSimpArgs false
set_option linter.unusedVariables false
open Go.RowKit

def agCond (l : List O3) (i : Nat) (u : Int) : Bool := !(u == txAt l i) && (decide (firstOf l (txAt l i) < comAt l u) && tchB l l.length u 1 (itemAt l i))
def agSet (m : List Int) (t u : Int) : List Int := m.set t.toNat (bits .or .i64 (m.getD t.toNat 0) (2 ^ u.toNat))
def agIn (l : List O3) (i : Nat) (L m : List Int) : Nat → List Int
  | 0 => m
  | k + 1 => if h : k < L.length then (if agCond l i L[k] = true then agSet (agIn l i L m k) (txAt l i) L[k] else agIn l i L m k) else agIn l i L m k
theorem agIn_yes {l : List O3} {i k : Nat} {L m : List Int} (hk : k < L.length) (h : agCond l i L[k] = true) : agIn l i L m (k + 1) = agSet (agIn l i L m k) (txAt l i) L[k] := by rw [agIn, dif_pos hk, if_pos h]
theorem agIn_no {l : List O3} {i k : Nat} {L m : List Int} (hk : k < L.length) (h : agCond l i L[k] = false) : agIn l i L m (k + 1) = agIn l i L m k := by rw [agIn, dif_pos hk, if_neg (by simp [h])]
theorem agSet_len (m : List Int) (t u : Int) : (agSet m t u).length = m.length := by simp [agSet]
theorem agIn_len (l : List O3) (i : Nat) (L m : List Int) (k : Nat) : (agIn l i L m k).length = m.length := by
  induction k with
  | zero => rfl
  | succ k ih => unfold agIn; split <;> (try split) <;> (try rw [agSet_len]) <;> exact ih
def agSkip (l : List O3) (L : List Int) (i : Nat) : Bool := !(kindAt l i == 0) || (!(L.contains (txAt l i)) || tchB l i (txAt l i) 1 (itemAt l i))
where kindAt (l : List O3) (i : Nat) : Int := if h : i < l.length then l[i].kind else 0
theorem skip_eq {l : List O3} {i : Nat} (L : List Int) (h : i < l.length) : agSkip l L i = (!(l[i].kind == 0) || (!(L.contains l[i].tx) || tchB l i l[i].tx 1 l[i].item)) := by
  simp only [agSkip, agSkip.kindAt, txAt_eq h, itemAt_eq h, dif_pos h]
theorem cond_eq {l : List O3} {i : Nat} (h : i < l.length) (u : Int) : agCond l i u = (!(u == l[i].tx) && (decide (firstOf l l[i].tx < comAt l u) && tchB l l.length u 1 l[i].item)) := by
  simp only [agCond, txAt_eq h, itemAt_eq h]
def agTo (l : List O3) (L : List Int) : Nat → List Int
  | 0 => [0, 0, 0, 0]
  | k + 1 => if agSkip l L k = true then agTo l L k else agIn l k L (agTo l L k) L.length
theorem agTo_skip {l : List O3} {L : List Int} {k : Nat} (h : agSkip l L k = true) : agTo l L (k + 1) = agTo l L k := by rw [agTo, if_pos h]
theorem agTo_in {l : List O3} {L : List Int} {k : Nat} (h : agSkip l L k = false) : agTo l L (k + 1) = agIn l k L (agTo l L k) L.length := by rw [agTo, if_neg (by simp [h])]
theorem agTo_len (l : List O3) (L : List Int) (k : Nat) : (agTo l L k).length = 4 := by
  induction k with
  | zero => rfl
  | succ k ih => unfold agTo; split <;> (try rw [agIn_len]) <;> exact ih
noncomputable def agV (l : List O3) : List Int := if tt (ValidP l) = true then agTo l (survL l) l.length else []
theorem agV_len (l : List O3) (hl : l.length ≤ 1048576) : (agV l).length ≤ 1048576 := by
  unfold agV; split
  · rw [agTo_len]; omega
  · simp
theorem agSet_at {m : List Int} {n v : Nat} (h : n < m.length) : agSet m n v = m.set n (bits .or .i64 m[n] (2 ^ v)) := by
  unfold agSet
  simp [List.getD, List.getElem?_eq_getElem h]
set_option maxHeartbeats 400000 in
theorem Index_list_any (A : Option Addr) (c : Nat) (l : List Int) (x : Int) (w : World) (hl : l.length ≤ maxLen) (hR : RdI w w.heap.size A l) :
    Calls Try.prog 82 #[.slice A l.length c, .int .i64 x] w fun e w' => e = .returned (.int .i64 (idxB (fun y => x == y) l)) ∧ w = w' := by
  unfold maxLen at hl
  go_enter Try.func82, Try.ntmps82
  go_wp2_with fail
  go_loop [8] (fun i => ∃ k : Nat, k ≤ l.length ∧ i = .int .i64 k ∧ (l.take k).findIdx? (fun y => x == y) = none) (fun i => l.length - (intOf i).toNat)
  case atStart => exact ⟨0, Nat.zero_le _, rfl, rfl⟩
  case round =>
    obtain ⟨k, hk, rfl, hall⟩ := hrel
    have HA := Lib.hid hall; clear hall
    by_cases hlt : k < l.length
    · obtain ⟨b, off, rfl, hb, h0⟩ := hR.at_ hlt
      cases e1 : (x == l[k])
      · go_wp2
        exact ⟨⟨k + 1, by omega, by go_num, idx_on hlt HA.out e1⟩, by simp [intOf]; omega⟩
      · go_wp2
        go_ret
        exact ⟨ret_int (idx_hit hlt HA.out e1), rfl⟩
    · have hk' : k = l.length := by omega
      have HK := Lib.hid hk'; clear hk'
      go_wp2
      go_ret
      exact ⟨ret_int (idx_none (by have h := HA.out; rwa [HK.out, List.take_length] at h)), rfl⟩
set_option maxHeartbeats 400000 in
theorem Contains_list_any (A : Option Addr) (c : Nat) (l : List Int) (x : Int) (w : World) (hl : l.length ≤ maxLen) (hR : RdI w w.heap.size A l) :
    Calls Try.prog 58 #[.slice A l.length c, .int .i64 x] w fun e w' => e = .returned (.bool (l.contains x)) ∧ w = w' := by
  go_enter Try.func58, Try.ntmps58
  go_wp2_with (go_at_call 82; refine (Index_list_any _ _ _ _ _ hl hR).mono ?_; rintro e w1 ⟨rfl, rfl⟩)
  go_ret
  exact ⟨ret_bool ((idx_any _ _).trans (List.contains_eq_any_beq).symm), rfl⟩
set_option maxHeartbeats 400000 in
theorem spec_hasInt_any (A : Option Addr) (c : Nat) (l : List Int) (x : Int) (w : World) (hl : l.length ≤ maxLen) (hR : RdI w w.heap.size A l) :
    Calls Try.prog 56 #[.slice A l.length c, .int .i64 x] w fun e w' => e = .returned (.bool (l.contains x)) ∧ w = w' := by
  unfold maxLen at hl
  obtain ⟨r, hr⟩ : ∃ r, r = l.contains x := ⟨_, rfl⟩
  rw [← hr]
  have HR := Lib.hid hr; clear hr
  go_enter Try.func56, Try.ntmps56
  go_wp2_with fail
  go_loop [5] (fun i => ∃ k : Nat, k ≤ l.length ∧ i = .int .i64 k ∧ (l.take k).contains x = false) (fun i => l.length - (intOf i).toNat)
  case atStart => exact ⟨0, Nat.zero_le _, rfl, rfl⟩
  case round =>
    obtain ⟨k, hk, rfl, hall⟩ := hrel
    have HA := Lib.hid hall; clear hall
    by_cases hlt : k < l.length
    · obtain ⟨b, off, rfl, hb, h0⟩ := hR.at_ hlt
      cases e1 : (l[k] == x)
      · have HN := Lib.hid (show (l.take (k + 1)).contains x = false by
          rw [List.contains_eq_any_beq, any_take_one _ hlt, ← List.contains_eq_any_beq, HA.out, Bool.false_or, Bool.eq_false_iff]
          intro h; simp at h e1; exact e1 h.symm)
        go_wp2
        exact ⟨⟨k + 1, by omega, by go_num, HN.out⟩, by simp [intOf]; omega⟩
      · have HY := Lib.hid (show l.contains x = true by
          rw [List.contains_iff_mem]
          have := eq_of_beq e1
          exact this ▸ List.getElem_mem hlt)
        go_wp2
        go_ret
        exact ⟨ret_bool (HR.out.trans HY.out).symm, rfl⟩
    · have hk' : k = l.length := by omega
      have HK := Lib.hid hk'; clear hk'
      go_wp2
      go_ret
      exact ⟨ret_bool (by have h := HA.out; rw [HK.out, List.take_length] at h; exact (HR.out.trans h).symm), rfl⟩
def pwN (k : Nat) : Int := 2 ^ k
set_option maxHeartbeats 400000 in
theorem spec_power_any (n : Nat) (w : World) (hn : n ≤ 3) :
    Calls Try.prog 57 #[.int .i64 n] w fun e w' => e = .returned (.int .i64 (pwN n)) ∧ w = w' := by
  go_enter Try.func57, Try.ntmps57
  go_wp2_with fail
  go_loop [0, 3] (fun v0 v3 => ∃ k : Nat, k ≤ n ∧ v0 = .int .i64 ((n : Int) - k) ∧ v3 = .int .i64 (pwN k)) (fun v0 _ => (intOf v0).toNat)
  case atStart => exact ⟨0, Nat.zero_le _, by simp, rfl⟩
  case round =>
    obtain ⟨k, hk, rfl, rfl⟩ := hrel
    by_cases hlt : k < n
    · have hp1 : 0 ≤ pwN k := by rcases (show k = 0 ∨ k = 1 ∨ k = 2 by omega) with rfl | rfl | rfl <;> decide
      have hp2 : pwN k ≤ 8 := by rcases (show k = 0 ∨ k = 1 ∨ k = 2 by omega) with rfl | rfl | rfl <;> decide
      have HP := Lib.hid (show pwN (k + 1) = 2 * pwN k by rcases (show k = 0 ∨ k = 1 ∨ k = 2 by omega) with rfl | rfl | rfl <;> decide)
      go_wp2
      exact ⟨⟨k + 1, by omega, by go_num, by rw [HP.out]; try go_num⟩, by simp [intOf]; omega⟩
    · have hk' : k = n := by omega
      subst hk'
      go_wp2
      go_ret
      exact ⟨rfl, rfl⟩
end Go.Proofs.Ytafjlklcffbbfaa
