/- The drawn law of faults: its draw, and faults of a schedule that is cut. -/
import Derived.Test.YtafjlklcffbbfaaFau
import Derived.Test.YtafjlklcffbbfaaSome
import Derived.Test.YtafjlklcffbbfaaPl
namespace Go.Proofs.Ytafjlklcffbbfaa
set_option linter.unusedSimpArgs false
set_option linter.unusedVariables false
open Go.RowKit
theorem atO_take {l : List O3} {m k : Nat} (h : k < m) : atO (l.take m) k = atO l k := by
  unfold atO
  rw [List.getD_eq_getElem?_getD, List.getD_eq_getElem?_getD, List.getElem?_take, if_pos h]
theorem itemAt_take {l : List O3} {m k : Nat} (h : k < m) (hm : m ≤ l.length) : itemAt (l.take m) k = itemAt l k := by
  rw [itemAt_eq (show k < l.length by omega), itemAt_eq (show k < (l.take m).length by simp; omega)]
  simp
theorem srcAt_take (g : O3 → Bool) {l : List O3} {m : Nat} (hm : m ≤ l.length) : ∀ k, k ≤ m → srcAt g (l.take m) k = srcAt g l k := by
  intro k
  induction k with
  | zero => intro _; rfl
  | succ k ih =>
    intro hk
    have h1 : k < l.length := by omega
    have h2 : k < (l.take m).length := by simp; omega
    have e : (l.take m)[k] = l[k] := by simp
    unfold srcAt
    rw [dif_pos h1, dif_pos h2, e, ih (by omega)]
theorem take_take' {l : List O3} {m i : Nat} (h : i ≤ m) : (l.take m).take i = l.take i := by rw [List.take_take, Nat.min_eq_left h]
theorem srcI_take {l : List O3} {m k : Nat} (h : k < m) (hm : m ≤ l.length) : srcI (l.take m) k = srcI l k := by
  unfold srcI
  rw [srcAt_take _ hm k (by omega), itemAt_take h hm, take_take' (Nat.le_of_lt h)]
theorem dirty_take {l : List O3} {m k i : Nat} (h : k < m) (hi : i ≤ m) (hm : m ≤ l.length) : dirtyI (l.take m) k i = dirtyI l k i := by
  unfold dirtyI
  rw [srcI_take h hm, atO_take h, take_take' hi]
theorem brk_take (r : Nat) {l : List O3} {m i : Nat} (h : i < m) (hm : m ≤ l.length) : brkI r (l.take m) i = brkI r l i := by
  unfold brkI
  split
  · rw [atO_take h]
    congr 1
    exact anyTo_congr fun k hk => by unfold p0I; rw [atO_take h, atO_take (show k < m by omega), dirty_take (by omega) (by omega) hm]
  · rw [atO_take h, dirty_take h (by omega) hm]
  · rw [take_take' (Nat.le_of_lt h)]
    exact any_congr fun o _ => by unfold p23I; rw [atO_take h, take_take' (Nat.le_of_lt h)]
  · rw [take_take' (Nat.le_of_lt h)]
    exact any_congr fun o _ => by unfold p23I; rw [atO_take h, take_take' (Nat.le_of_lt h)]
  · rw [atO_take h]
    congr 1
    exact anyTo_congr fun k hk => by
      unfold p4I
      exact anyTo_congr fun j hj => by
        unfold q4I
        rw [atO_take h, atO_take (show k < m by omega), atO_take (show k + 1 + j < m by omega), take_take' (Nat.le_of_lt h)]
  · rfl
theorem fault_take {r : Nat} {l : List O3} (hv : ValidP l) {m : Nat} (hm : m ≤ l.length) : faultV (some r) (l.take m) = (fstTo (brkI r l) m, true) := by
  unfold faultV
  have h1 : tt (ValidP (l.take m)) = true := tt_true (valid_take hv m)
  have h2 : (l.take m).length = m := by simp; omega
  simp only [h1, if_true]
  rw [h2, fst_congr (fun k hk => brk_take r hk hm)]
/-- What the law asks. -/
theorem fault_ahead {r : Option Nat} {l : List O3} {k : Nat} (h2 : (faultV r l).2 = true) (h1 : (faultV r l).1 = k) : k < l.length ∧ keepsV r (l.take k) = true ∧ keepsV r (l.take (k + 1)) = false := by
  cases r with
  | none => cases h2
  | some r =>
    cases hv : tt (ValidP l) with
    | false => simp [faultV, hv] at h2
    | true =>
      have hP : ValidP l := tt_eq.1 hv
      have hf : (faultV (some r) l).1 = fstTo (brkI r l) l.length := by simp only [faultV, hv, if_true]
      rw [hf] at h1
      rcases fst_cases (brkI r l) l.length with ⟨h3, _⟩ | ⟨j, hj, h3, h4, h5⟩
      · rw [h3] at h1; omega
      · have : j = k := by rw [h3] at h1; omega
        subst this
        refine ⟨hj, ?_, ?_⟩
        · unfold keepsV
          rw [fault_take hP (Nat.le_of_lt hj), fst_none h5]; rfl
        · unfold keepsV
          rw [fault_take hP hj, fst_hit h5 h4 (Nat.lt_succ_self j)]
          simp
theorem fault_below {r : Option Nat} {l : List O3} (h2 : (faultV r l).2 = true) (h1 : (faultV r l).1 < 0) : keepsV r l = true := by
  unfold keepsV; rw [h2]; simp [h1]
set_option maxHeartbeats 1000000 in
theorem of_any (g P b : Nat) (c : Nat) (ss : List ByteArray) (w : World) (hP : P < 1000000) (hl : ss.length < 1000000) (h1 : 1 ≤ ss.length) (hr : RdrAt w g P) (hb : b < w.heap.size) (hne : b ≠ g) (hR : ∀ k (h : k < ss.length), w.cell? ⟨b, k, none⟩ = some (.string ss[k])) :
    Calls Try.prog 73 #[.pointer (some ⟨g, 0, none⟩), .slice (some ⟨b, 0, none⟩) ss.length c] w fun e w' => (∃ s : ByteArray, e = .returned (.string s)) ∧ RdrAt w' g (P + 1) ∧ w.grownBy w' (some g) := by
  go_enter Try.func73, Try.ntmps73
  go_wp2_with fail
  refine (pick_any g P ss.length _ hP (by omega) hr).mono ?_
  rintro e w2 ⟨⟨x, rfl, x0, x1⟩, hr2, hg2⟩
  obtain ⟨k, rfl⟩ : ∃ k : Nat, x = k := ⟨x.toNat, by omega⟩
  have hk : k < ss.length := by have := x1 (by omega); omega
  have h0' : w2.cell? ⟨b, k, none⟩ = some (.string ss[k]) := (World.cell?_of_block (hg2.block b hb (by simpa using hne))).trans (hR k hk)
  clear x0 x1
  go_wp2
  go_ret
  exact ⟨⟨ss[k], rfl⟩, hr2, hg2⟩
set_option maxHeartbeats 1000000 in
theorem aRule_any (g P : Nat) (w : World) (hP : P < 1000000) (hr : RdrAt w g P) :
    Calls Try.prog 41 #[.pointer (some ⟨g, 0, none⟩)] w fun e w' => (∃ s : ByteArray, e = .returned (.string s)) ∧ RdrAt w' g (P + 1) ∧ w.grownBy w' (some g) := by
  have hlt := hr.lt
  go_enter Try.func41, Try.ntmps41
  go_wp2_with fail
  refine (of_any g P w.heap.size 8 [(⟨#[114, 101, 99, 111, 118, 101, 114, 97, 98, 108, 101]⟩ : ByteArray), (⟨#[99, 97, 115, 99, 97, 100, 101, 115]⟩ : ByteArray), (⟨#[115, 116, 114, 105, 99, 116]⟩ : ByteArray), (⟨#[114, 105, 103, 111, 114, 111, 117, 115]⟩ : ByteArray), (⟨#[99, 111, 109, 109, 105, 116, 115]⟩ : ByteArray), (⟨#[115, 116, 114, 105, 99, 116]⟩ : ByteArray), (⟨#[114, 105, 103, 111, 114, 111, 117, 115]⟩ : ByteArray), (⟨#[]⟩ : ByteArray)] _ hP (by simp) (by simp) (hr.al _) (by simp) (by omega) ?_).mono ?_
  · intro k hk
    have hk8 : k < 8 := hk
    rcases (show k = 0 ∨ k = 1 ∨ k = 2 ∨ k = 3 ∨ k = 4 ∨ k = 5 ∨ k = 6 ∨ k = 7 by omega) with rfl | rfl | rfl | rfl | rfl | rfl | rfl | rfl <;> simp
  · rintro e w1 ⟨⟨s, rfl⟩, hr1, hg1⟩
    go_wp2
    go_ret
    exact ⟨⟨s, rfl⟩, hr1, (World.grownBy_alloc _ _ _).trans hg1⟩
theorem OwnO.capM {w : World} {B n c : Nat} {A : Option Addr} {E : TypeId} {l : List O3} (h : OwnO w B E (.slice A n c) l) : c ≤ maxLen := by
  rcases h with ⟨h', _⟩ | ⟨g, cap, cur, h', _, _, _, hcm, _⟩
  · injection h' with _ _ h'; subst h'; exact Nat.zero_le _
  · injection h' with _ _ h'; subst h'; exact hcm
set_option maxHeartbeats 400000 in
theorem DrawFaultOf_any (A : Option Addr) (c n : Nat) (w : World) (hc : n ≤ c) (hl : n ≤ maxLen) (hR : RdB w w.heap.size A n) :
    Calls Try.prog 26 #[.slice A n c] w fun e w' => (∃ (s : ByteArray) (A' : Option Addr) (c' : Nat) (l : List O3), e = .returned (.tuple #[.string s, .slice A' l.length c']) ∧ l.length ≤ 16 ∧ l.length ≤ c' ∧ c' ≤ maxLen ∧ RdO w' w'.heap.size A' l) ∧ Below w.heap.size w w' := by
  go_enter Try.func26, Try.ntmps26
  go_wp2_with fail
  refine (newReader_any A c n _ hc hl hR).mono ?_
  rintro e w1 ⟨⟨rfl, hr1⟩, hb1⟩
  go_wp2_with fail
  refine (aRule_any w.heap.size 0 _ (by omega) hr1).mono ?_
  rintro e w2 ⟨⟨s, rfl⟩, hr2, hg2⟩
  go_wp2_with fail
  refine (someSchedule_any w.heap.size (0 + 1) _ (by omega) hr2).mono ?_
  rintro e w3 ⟨⟨A', c', l, P', rfl, hO, hl', hr3, hP3⟩, hg3⟩
  go_wp2
  go_ret2
  have h2 := hb1.grown hg2 hb1.size (fun k hk => by simp at hk; omega)
  exact ⟨⟨s, A', c', l, rfl, hl', hO.cap, hO.capM, hO.rd⟩, h2.grown hg3 h2.size (fun k hk => by simp at hk; omega)⟩
end Go.Proofs.Ytafjlklcffbbfaa
