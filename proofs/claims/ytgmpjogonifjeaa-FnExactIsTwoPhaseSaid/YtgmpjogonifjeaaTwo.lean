/- Contracts of IsTwoPhase, the reference's and the program's. -/
import Derived.Test.YtgmpjogonifjeaaSteps
import Derived.RegionTactic
import Derived.StillTailTactics
namespace Go.Proofs.Ytgmpjogonifjeaa
set_option linter.unusedSimpArgs false
set_option linter.unusedVariables false
open Go.RowKit

theorem next_not {p : Nat → Prop} {j : Nat} (h : ∀ i, i < j → ¬ p i) (hj : ¬ p j) : ∀ i, i < j + 1 → ¬ p i := fun i hi => by
  by_cases e : i = j
  · subst e; exact hj
  · exact h i (by omega)
theorem next_not2 {p : Nat → Nat → Prop} {k : Nat} (h : ∀ i j, i < k → ¬ p i j) (hk : ∀ j, ¬ p k j) : ∀ i j, i < k + 1 → ¬ p i j := fun i j hi => by
  by_cases e : i = k
  · subst e; exact hk j
  · exact h i j (by omega)

set_option maxHeartbeats 1000000 in
theorem spec_twoPhase_any (A : Option Addr) (c : Nat) (l : List O3) (w : World) (hl : l.length ≤ maxLen) (hR : RdO w w.heap.size A l) :
    Calls Try.prog 32 #[.slice A l.length c] w fun e w' => e = .returned (.bool (tt (TwoP l))) ∧ Below w.heap.size w w' := by
  unfold maxLen at hl
  go_enter Try.func32, Try.ntmps32
  go_wp2_with fail
  go_loopw [3] (fun i wr => ∃ k : Nat, k ≤ l.length ∧ i = .int .i64 k ∧ (∀ i j, i < k → ¬ BadP l i j) ∧ Below w.heap.size w wr) (fun i _ => l.length - (intOf i).toNat)
  case atStart => exact ⟨0, Nat.zero_le _, rfl, fun i j h => by omega, Below.refl _ _⟩
  case round =>
    obtain ⟨k, hk, rfl, hall, hbw⟩ := hrel
    have HA := Lib.hid hall; clear hall
    have HB := Lib.hid hbw; clear hbw
    by_cases hlt : k < l.length
    · go_wp2_with fail
      obtain ⟨wo, hwo⟩ : ∃ wo : World, wo = wr := ⟨_, rfl⟩
      subst hwo
      go_loopw [4] (fun i wr => ∃ j : Nat, j ≤ l.length ∧ k < j ∧ i = .int .i64 j ∧ (∀ i, i < j → ¬ BadP l k i) ∧ Below w.heap.size w wr) (fun i _ => l.length - (intOf i).toNat)
      case atStart => exact ⟨k + 1, by omega, by omega, by go_num, fun i h ⟨_, _, h', _⟩ => by omega, HB.out⟩
      case round =>
        obtain ⟨j, hj, hkj, rfl, hin, hbw⟩ := hrel
        have HI := Lib.hid hin; clear hin
        have HW := Lib.hid hbw; clear hbw
        by_cases hjt : j < l.length
        · obtain ⟨b, off, rfl, hb, h0, h1, h2⟩ := (hR.on HW.out).at_ hlt
          obtain ⟨b', off', e', hb', h0', h1', h2'⟩ := (hR.on HW.out).at_ hjt
          simp only [Option.some.injEq, Addr.mk.injEq, and_true] at e'
          obtain ⟨rfl, rfl⟩ := e'
          rcases and3 (l[k].tx == l[j].tx) (l[k].kind == 2) (decide (l[j].kind ≤ 1)) with e1 | ⟨e1, e2⟩ | ⟨e1, e2, e3⟩ | ⟨e1, e2, e3⟩
          all_goals go_wp2_with fail
          all_goals ((first | (with_reducible refine wp_region_from (by with_reducible assumption) follows (by kernel_rfl) ?_) | (refine wp_region_aft follows (by kernel_rfl) ?_)); (repeat (go_big_quiet_step (fail))); refine wpQuiet_nil ?_; intro _ hw'; obtain ⟨⟨w1, hb⟩, rfl⟩ := hw'; (try dsimp only); first | (replace hb := Below.via hb (by with_reducible assumption); (try clear hbc hbf hbz); obtain ⟨hbc, hbf, hbz⟩ := bcell hb) | (obtain ⟨hbc, hbf, hbz⟩ := bcell hb))
          all_goals go_wp2
          · exact ⟨⟨j + 1, by omega, by omega, by go_num, next_not HI.out (fun ⟨_, _, _, g1, g2, g3⟩ => by rw [g1] at e1; simp at e1), by have hbw := HW.out; (repeat' (first | (with_reducible exact Below.refl _ _) | (with_reducible assumption) | (with_reducible refine Below.al ?_ _) | (with_reducible refine Below.drew ?_) | (with_reducible refine Below.drN ?_ _) | (with_reducible refine Below.via (by with_reducible assumption) ?_) | (with_reducible refine Below.setc ?_ ?_ _) | (with_reducible exact Nat.le_refl _) | (simp; done) | (simp; omega)))⟩, by simp [intOf]; omega⟩
          · exact ⟨⟨j + 1, by omega, by omega, by go_num, next_not HI.out (fun ⟨_, _, _, g1, g2, g3⟩ => by rw [g2] at e2; simp at e2), by have hbw := HW.out; (repeat' (first | (with_reducible exact Below.refl _ _) | (with_reducible assumption) | (with_reducible refine Below.al ?_ _) | (with_reducible refine Below.drew ?_) | (with_reducible refine Below.drN ?_ _) | (with_reducible refine Below.via (by with_reducible assumption) ?_) | (with_reducible refine Below.setc ?_ ?_ _) | (with_reducible exact Nat.le_refl _) | (simp; done) | (simp; omega)))⟩, by simp [intOf]; omega⟩
          · exact ⟨⟨j + 1, by omega, by omega, by go_num, next_not HI.out (fun ⟨_, _, _, g1, g2, g3⟩ => by simp [g3] at e3), by have hbw := HW.out; (repeat' (first | (with_reducible exact Below.refl _ _) | (with_reducible assumption) | (with_reducible refine Below.al ?_ _) | (with_reducible refine Below.drew ?_) | (with_reducible refine Below.drN ?_ _) | (with_reducible refine Below.via (by with_reducible assumption) ?_) | (with_reducible refine Below.setc ?_ ?_ _) | (with_reducible exact Nat.le_refl _) | (simp; done) | (simp; omega)))⟩, by simp [intOf]; omega⟩
          · go_ret
            refine ⟨ret_bool (tt_false (fun h => h k j ⟨hlt, hjt, hkj, by simpa using e1, by simpa using e2, by simpa using e3⟩)).symm, by have hbw := HW.out; (repeat' (first | (with_reducible exact Below.refl _ _) | (with_reducible assumption) | (with_reducible refine Below.al ?_ _) | (with_reducible refine Below.drew ?_) | (with_reducible refine Below.drN ?_ _) | (with_reducible refine Below.via (by with_reducible assumption) ?_) | (with_reducible refine Below.setc ?_ ?_ _) | (with_reducible exact Nat.le_refl _) | (simp; done) | (simp; omega)))⟩
        · have hj' : j = l.length := by omega
          have HJ := Lib.hid hj'; clear hj'
          go_wp2
          exact ⟨⟨k + 1, by omega, by go_num, next_not2 HA.out (fun j' ⟨h1, h2, h3⟩ => HI.out j' (by rw [HJ.out]; exact h2) ⟨h1, h2, h3⟩), HW.out⟩, by simp [intOf]; omega⟩
    · have hk' : k = l.length := by omega
      have HK := Lib.hid hk'; clear hk'
      go_wp2
      go_ret
      exact ⟨ret_bool (tt_true (fun i j h => HA.out i j (by rw [HK.out]; exact h.1) h)).symm, HB.out⟩

def takesB (o : O3) : Bool := o.kind == 0 || o.kind == 1
set_option maxHeartbeats 400000 in
theorem impl_takes_any (a b c : Int) (w : World) :
    Calls Try.prog 33 #[.agg #[.int .i64 a, .int .i64 b, .int .i64 c]] w fun e w' => e = .returned (.bool (takesB ⟨a, b, c⟩)) ∧ Below w.heap.size w w' := by
  go_enter Try.func33, Try.ntmps33
  go_wp2
  all_goals (go_ret; exact ⟨ret_bool (by simp [takesB, *]; try omega), by (repeat' (first | (with_reducible exact Below.refl _ _) | (with_reducible assumption) | (with_reducible refine Below.al ?_ _) | (with_reducible refine Below.drew ?_) | (with_reducible refine Below.drN ?_ _) | (with_reducible refine Below.via (by with_reducible assumption) ?_) | (with_reducible refine Below.setc ?_ ?_ _) | (with_reducible exact Nat.le_refl _) | (simp; done) | (simp; omega)))⟩)

/-- What is known of who has given a lock back, in a block of four cells. -/
def FreedAt (w : World) (g : Nat) (l : List O3) (k : Nat) : Prop :=
  w.heap[g]? = some (.cells #[.bool (freedB l k 0), .bool (freedB l k 1), .bool (freedB l k 2), .bool (freedB l k 3)] 52 (0, 0))
theorem FreedAt.cell {w : World} {g : Nat} {l : List O3} {k : Nat} (h : FreedAt w g l k) {n : Nat} (hn : n < 4) : w.cell? ⟨g, n, none⟩ = some (.bool (freedB l k n)) ∧ ∀ j, w.frozen? ⟨g, j, none⟩ = false := by
  refine ⟨?_, fun j => frozen_of_row w g j _ _ h⟩
  rw [cell_of_row w g n _ _ (0, 0) h]
  match n, hn with
  | 0, _ => rfl
  | 1, _ => rfl
  | 2, _ => rfl
  | 3, _ => rfl

theorem FreedAt.drew {w : World} {g : Nat} {l : List O3} {k : Nat} (h : FreedAt w g l k) : FreedAt w.drew g l k := h
theorem FreedAt.on {w w' : World} {g : Nat} {l : List O3} {k : Nat} (h : FreedAt w g l k) (hb : Below w.heap.size w w') : FreedAt w' g l k := (hb.block g (lt_of_block h)).trans h
theorem FreedAt.set_ {w : World} {g : Nat} {l : List O3} {k n : Nat} (h : FreedAt w g l k) (hk : k < l.length) (hn : l[k].tx = n) (hn4 : n < 4) {v : Bool} (hv : v = (freedB l k n || l[k].kind == 2)) : FreedAt (w.setCell ⟨g, n, none⟩ (.bool v)) g l (k + 1) := by
  have e : ∀ t : Int, freedB l (k + 1) t = (freedB l k t || (decide ((n : Int) = t) && l[k].kind == 2)) := fun t => by
    rw [freed_succ hk, hn]; rfl
  have hs := heap_setCell_same w g n _ _ (.bool v) h
  unfold FreedAt
  rw [hs, hv, e 0, e 1, e 2, e 3]
  match n, hn4 with
  | 0, _ => simp
  | 1, _ => simp
  | 2, _ => simp
  | 3, _ => simp
theorem col_not {l : List O3} {k n : Nat} (hk : k < l.length) (hn : l[k].tx = n) (h0 : 0 ≤ l[k].kind) (h : freedB l k n = false ∨ takesB ⟨n, l[k].kind, l[k].item⟩ = false) : ∀ i, ¬ BadP l i k := by
  rintro i ⟨hi, _, hik, g1, g2, g3⟩
  have hf : freedB l k n = true := freed_iff.2 ⟨i, hi, hik, by rw [g1, hn], g2⟩
  rcases h with h | h
  · rw [hf] at h; cases h
  · simp [takesB] at h; omega

set_option maxHeartbeats 1000000 in
theorem impl_IsTwoPhase_any (A : Option Addr) (c : Nat) (l : List O3) (w : World) (hl : l.length ≤ maxLen) (hR : RdO w w.heap.size A l) :
    Calls Try.prog 18 #[.slice A l.length c] w fun e w' => e = .returned (.bool (stepsB l && tt (TwoP l))) ∧ Below w.heap.size w w' := by
  have HL := Lib.hid hl
  unfold maxLen at hl
  cases hv : stepsB l
  · have HV := Lib.hid hv; clear hv
    go_enter Try.func18, Try.ntmps18
    go_wp2_with (go_at_call 15; refine (impl_ValidSteps_any _ _ _ _ HL.out (hR.alloc (Nat.le_refl _) _ |>.more (by simp))).mono ?_; rintro e w1 ⟨rfl, hb1⟩; rw [HV.out])
    go_ret
    exact ⟨rfl, by (repeat' (first | (with_reducible exact Below.refl _ _) | (with_reducible assumption) | (with_reducible refine Below.al ?_ _) | (with_reducible refine Below.drew ?_) | (with_reducible refine Below.drN ?_ _) | (with_reducible refine Below.via (by with_reducible assumption) ?_) | (with_reducible refine Below.setc ?_ ?_ _) | (with_reducible exact Nat.le_refl _) | (simp; done) | (simp; omega)))⟩
  · have HV := Lib.hid hv; clear hv
    have hall : l.all stepB = true := by have h := HV.out; simp [stepsB] at h; simpa using h.1
    have HS := Lib.hid hall; clear hall
    go_enter Try.func18, Try.ntmps18
    go_wp2_with (go_at_call 15; refine (impl_ValidSteps_any _ _ _ _ HL.out (hR.alloc (Nat.le_refl _) _ |>.more (by simp))).mono ?_; rintro e w1 ⟨rfl, hb1⟩; rw [HV.out])
    have hF0 : FreedAt w1 w.heap.size l 0 := by
      have h := hb1.block w.heap.size (by simp)
      unfold FreedAt
      rw [h]
      exact heap_alloc_new w _
    have hbw0 : Below w.heap.size w w1 := by (repeat' (first | (with_reducible exact Below.refl _ _) | (with_reducible assumption) | (with_reducible refine Below.al ?_ _) | (with_reducible refine Below.drew ?_) | (with_reducible refine Below.drN ?_ _) | (with_reducible refine Below.via (by with_reducible assumption) ?_) | (with_reducible refine Below.setc ?_ ?_ _) | (with_reducible exact Nat.le_refl _) | (simp; done) | (simp; omega)))
    go_loopw [11] (fun i wr => ∃ k : Nat, k ≤ l.length ∧ i = .int .i64 k ∧ FreedAt wr w.heap.size l k ∧ (∀ j, j < k → ∀ i, ¬ BadP l i j) ∧ Below w.heap.size w wr) (fun i _ => l.length - (intOf i).toNat)
    case atStart => exact ⟨0, Nat.zero_le _, rfl, hF0, fun j h => by omega, hbw0⟩
    case round =>
      obtain ⟨k, hk, rfl, hF, hall, hbw⟩ := hrel
      have HA := Lib.hid hall; clear hall
      have HB := Lib.hid hbw; clear hbw hbw0 hb1
      have HF := Lib.hid hF; clear hF hF0
      by_cases hlt : k < l.length
      · obtain ⟨b, off, rfl, hb, h0, h1, h2⟩ := (hR.on HB.out).at_ hlt
        obtain ⟨⟨t0, t3⟩, ⟨hk0, _⟩, _⟩ := steps_at HS.out hlt
        obtain ⟨n, hn⟩ : ∃ n : Nat, l[k].tx = n := ⟨l[k].tx.toNat, by omega⟩
        have HN := Lib.hid hn
        rw [hn] at h0 t3
        clear t0 hn
        obtain ⟨f1, f2⟩ := HF.out.cell (n := n) (by omega)
        have hbB : w.heap.size < wr.heap.size := lt_of_block HF.out
        have hn4 : (n : Int) < 4 := by omega
        rcases Bool.eq_false_or_eq_true (freedB l k n) with e1 | e1 <;> rcases Bool.eq_false_or_eq_true (takesB ⟨n, l[k].kind, l[k].item⟩) with e2 | e2 <;> rcases Bool.eq_false_or_eq_true (l[k].kind == 2) with e3 | e3
        all_goals rw [e1] at f1
        all_goals go_wp2_with (go_at_call 33; refine (impl_takes_any _ _ _ _).mono ?_; rintro e w1 ⟨rfl, hb⟩; first | (replace hb := Below.via hb (by with_reducible assumption); (try clear hbc hbf hbz); obtain ⟨hbc, hbf, hbz⟩ := bcell hb) | (obtain ⟨hbc, hbf, hbz⟩ := bcell hb))
        iterate 2
          · go_ret
            refine ⟨ret_bool ?_, by have hbw := HB.out; (repeat' (first | (with_reducible exact Below.refl _ _) | (with_reducible assumption) | (with_reducible refine Below.al ?_ _) | (with_reducible refine Below.drew ?_) | (with_reducible refine Below.drN ?_ _) | (with_reducible refine Below.via (by with_reducible assumption) ?_) | (with_reducible refine Below.setc ?_ ?_ _) | (with_reducible exact Nat.le_refl _) | (simp; done) | (simp; omega)))⟩
            rw [Bool.true_and, tt_false]
            intro h
            obtain ⟨i, hi, hik, g1, g2⟩ := freed_iff.1 e1
            refine h i k ⟨hi, hlt, hik, by rw [g1, HN.out], g2, ?_⟩
            simp [takesB] at e2
            omega
        all_goals go_region
        all_goals go_wp2
        all_goals
          refine ⟨⟨k + 1, by omega, by go_num, ?_, ?_, by have hbw := HB.out; (repeat' (first | (with_reducible exact Below.refl _ _) | (with_reducible assumption) | (with_reducible refine Below.al ?_ _) | (with_reducible refine Below.drew ?_) | (with_reducible refine Below.drN ?_ _) | (with_reducible refine Below.via (by with_reducible assumption) ?_) | (with_reducible refine Below.setc ?_ ?_ _) | (with_reducible exact Nat.le_refl _) | (simp; done) | (simp; omega)))⟩, by simp [intOf]; omega⟩
          · exact ((HF.out.on (by (repeat' (first | (with_reducible exact Below.refl _ _) | (with_reducible assumption) | (with_reducible refine Below.al ?_ _) | (with_reducible refine Below.drew ?_) | (with_reducible refine Below.drN ?_ _) | (with_reducible refine Below.via (by with_reducible assumption) ?_) | (with_reducible refine Below.setc ?_ ?_ _) | (with_reducible exact Nat.le_refl _) | (simp; done) | (simp; omega))))).set_ hlt HN.out (by omega) (by rw [e1, e3]; rfl)).drew
          · intro j hj
            by_cases ej : j = k
            · subst ej; exact col_not hlt HN.out hk0 (by first | exact .inl e1 | exact .inr e2)
            · exact HA.out j (by omega)
      · have hk' : k = l.length := by omega
        have HK := Lib.hid hk'; clear hk'
        go_wp2
        go_ret
        refine ⟨ret_bool ?_, HB.out⟩
        rw [Bool.true_and, tt_true]
        intro i j h
        exact HA.out j (by rw [HK.out]; exact h.2.1) i h

set_option maxHeartbeats 400000 in
theorem spec_IsTwoPhase_any (A : Option Addr) (c : Nat) (l : List O3) (w : World) (hl : l.length ≤ maxLen) (hR : RdO w w.heap.size A l) :
    Calls Try.prog 17 #[.slice A l.length c] w fun e w' => e = .returned (.bool (stepsB l && tt (TwoP l))) ∧ Below w.heap.size w w' := by
  cases hv : stepsB l
  all_goals
    have HV := Lib.hid hv; clear hv
    go_enter Try.func17, Try.ntmps17
    go_wp2_with (first | (go_at_call 26; refine (spec_validSteps_any _ _ _ _ hl hR).mono ?_; rintro e w1 ⟨rfl, rfl⟩; rw [HV.out]) | (go_at_call 32; refine (spec_twoPhase_any _ _ _ _ hl hR).mono ?_; rintro e w1 ⟨rfl, hb⟩))
    go_ret
    exact ⟨rfl, by (repeat' (first | (with_reducible exact Below.refl _ _) | (with_reducible assumption) | (with_reducible refine Below.al ?_ _) | (with_reducible refine Below.drew ?_) | (with_reducible refine Below.drN ?_ _) | (with_reducible refine Below.via (by with_reducible assumption) ?_) | (with_reducible refine Below.setc ?_ ?_ _) | (with_reducible exact Nat.le_refl _) | (simp; done) | (simp; omega)))⟩
end Go.Proofs.Ytgmpjogonifjeaa
