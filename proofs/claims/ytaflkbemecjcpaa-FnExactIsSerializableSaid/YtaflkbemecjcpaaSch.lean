/- Contracts of ValidSchedule and EndOf, the reference's and the program's. -/
import Derived.Test.YtaflkbemecjcpaaOps
import Derived.Test.YtaflkbemecjcpaaSchM
namespace Go.Proofs.Ytaflkbemecjcpaa
set_option linter.unusedSimpArgs false
set_option linter.unusedVariables false
open Go.RowKit

theorem RdO.take {w : World} {B : Nat} {A : Option Addr} {l : List O3} (h : RdO w B A l) (k : Nat) : RdO w B A (l.take k) := fun hne => by
  obtain ⟨b, off, hA, hb, hc⟩ := h (fun e => hne (by simp [e]))
  refine ⟨b, off, hA, hb, fun j hj => ?_⟩
  have hj' : j < l.length := by rw [List.length_take] at hj; omega
  have := hc j hj'
  simpa using this

set_option maxHeartbeats 1000000 in
theorem spec_validSchedule_any (A : Option Addr) (c : Nat) (l : List O3) (w : World) (hl : l.length ≤ maxLen) (hR : RdO w w.heap.size A l) :
    Calls Try.prog 37 #[.slice A l.length c] w fun e w' => e = .returned (.bool (tt (ValidP l))) ∧ Below w.heap.size w w' := by
  unfold maxLen at hl
  by_cases h16 : (16 : Int) < l.length
  · go_enter Try.func37, Try.ntmps37
    go_wp2
    go_ret
    exact ⟨ret_bool (tt_false (fun h => by have := h.1; omega)).symm, Below.refl _ _⟩
  · go_enter Try.func37, Try.ntmps37
    go_wp2_with fail
    go_loopw [3] (fun i wr => ∃ k : Nat, k ≤ l.length ∧ i = .int .i64 k ∧ (∀ j, j < k → OkAt l j) ∧ Below w.heap.size w wr) (fun i _ => l.length - (intOf i).toNat)
    case atStart => exact ⟨0, Nat.zero_le _, rfl, fun j h => by omega, Below.refl _ _⟩
    case round =>
      obtain ⟨k, hk, rfl, hall, hbw⟩ := hrel
      have HA := Lib.hid hall; clear hall
      have HB := Lib.hid hbw; clear hbw
      by_cases hlt : k < l.length
      · obtain ⟨b, off, rfl, hb, h0, h1, h2⟩ := (hR.on HB.out).at_ hlt
        rcases Bool.eq_false_or_eq_true (validB ⟨l[k].tx, l[k].kind, l[k].item⟩) with hv | hv
        · have HV := Lib.hid hv; clear hv
          go_wp2_with (go_at_call 69; refine (spec_validOp_any _ _ _ _).mono ?_; rintro e w1 ⟨rfl, hb1⟩; rw [HV.out])
          have hbw : Below w.heap.size w w1 := by have h := HB.out; (repeat' (first | (with_reducible exact Below.refl _ _) | (with_reducible assumption) | (with_reducible refine Below.al ?_ _) | (with_reducible refine Below.drew ?_) | (with_reducible refine Below.drN ?_ _) | (with_reducible refine Below.via (by with_reducible assumption) ?_) | (with_reducible refine Below.setc ?_ ?_ _) | (with_reducible exact Nat.le_refl _) | (simp; done) | (simp; omega)))
          have HC := Lib.hid hbw; clear hbw
          go_loopw [4] (fun i wr => ∃ j : Nat, j ≤ k ∧ i = .int .i64 j ∧ (∀ i (hi : i < l.length), i < j → ¬ (l[i].tx = l[k].tx ∧ endB l[i] = true)) ∧ Below w.heap.size w wr) (fun i _ => k - (intOf i).toNat)
          case atStart => exact ⟨0, Nat.zero_le _, rfl, fun i hi h => by omega, HC.out⟩
          case round =>
            obtain ⟨j, hj, rfl, hin, hbw⟩ := hrel
            have HI := Lib.hid hin; clear hin
            have HW := Lib.hid hbw; clear hbw
            clear h0 h1 h2 hb hb1
            by_cases hjt : j < k
            · obtain ⟨b1, off1, e1, hb, h0, h1, h2⟩ := (hR.on HW.out).at_ hlt
              simp only [Option.some.injEq, Addr.mk.injEq, and_true] at e1
              obtain ⟨rfl, rfl⟩ := e1
              have hjl : j < l.length := by omega
              obtain ⟨b', off', e', hb', h0', h1', h2'⟩ := (hR.on HW.out).at_ hjl
              simp only [Option.some.injEq, Addr.mk.injEq, and_true] at e'
              obtain ⟨rfl, rfl⟩ := e'
              rcases and2 (l[j].tx == l[k].tx) (endB ⟨l[j].tx, l[j].kind, l[j].item⟩) with e1 | ⟨e1, e2⟩ | ⟨e1, e2⟩
              · go_wp2_with fail
                ((first | (with_reducible refine wp_region_from (by with_reducible assumption) follows (by kernel_rfl) ?_) | (refine wp_region_aft follows (by kernel_rfl) ?_)); (repeat (go_big_quiet_step (fail))); refine wpQuiet_nil ?_; intro _ hw'; obtain ⟨⟨w1, hb⟩, rfl⟩ := hw'; (try dsimp only); first | (replace hb := Below.via hb (by with_reducible assumption); (try clear hbc hbf hbz); obtain ⟨hbc, hbf, hbz⟩ := bcell hb) | (obtain ⟨hbc, hbf, hbz⟩ := bcell hb))
                go_wp2
                exact ⟨⟨j + 1, by omega, by go_num, fun i hi h3 ⟨g1, g2⟩ => by
                  by_cases e : i = j
                  · subst e; rw [g1] at e1; simp at e1
                  · exact HI.out i hi (by omega) ⟨g1, g2⟩, by have hbw := HW.out; (repeat' (first | (with_reducible exact Below.refl _ _) | (with_reducible assumption) | (with_reducible refine Below.al ?_ _) | (with_reducible refine Below.drew ?_) | (with_reducible refine Below.drN ?_ _) | (with_reducible refine Below.via (by with_reducible assumption) ?_) | (with_reducible refine Below.setc ?_ ?_ _) | (with_reducible exact Nat.le_refl _) | (simp; done) | (simp; omega)))⟩, by simp [intOf]; omega⟩
              · go_wp2_with fail
                ((first | (with_reducible refine wp_region_from (by with_reducible assumption) follows (by kernel_rfl) ?_) | (refine wp_region_aft follows (by kernel_rfl) ?_)); (repeat (go_big_quiet_step ((go_at_call 70; exact aftb (spec_ends_any _ _ _ _) (e2))))); refine wpQuiet_nil ?_; intro _ hw'; obtain ⟨⟨w1, hb⟩, rfl⟩ := hw'; (try dsimp only); first | (replace hb := Below.via hb (by with_reducible assumption); (try clear hbc hbf hbz); obtain ⟨hbc, hbf, hbz⟩ := bcell hb) | (obtain ⟨hbc, hbf, hbz⟩ := bcell hb))
                go_wp2
                exact ⟨⟨j + 1, by omega, by go_num, fun i hi h3 ⟨g1, g2⟩ => by
                  by_cases e : i = j
                  · subst e; have h : endB l[i] = false := e2; rw [h] at g2; cases g2
                  · exact HI.out i hi (by omega) ⟨g1, g2⟩, by have hbw := HW.out; (repeat' (first | (with_reducible exact Below.refl _ _) | (with_reducible assumption) | (with_reducible refine Below.al ?_ _) | (with_reducible refine Below.drew ?_) | (with_reducible refine Below.drN ?_ _) | (with_reducible refine Below.via (by with_reducible assumption) ?_) | (with_reducible refine Below.setc ?_ ?_ _) | (with_reducible exact Nat.le_refl _) | (simp; done) | (simp; omega)))⟩, by simp [intOf]; omega⟩
              · go_wp2_with fail
                ((first | (with_reducible refine wp_region_from (by with_reducible assumption) follows (by kernel_rfl) ?_) | (refine wp_region_aft follows (by kernel_rfl) ?_)); (repeat (go_big_quiet_step ((go_at_call 70; exact aftb (spec_ends_any _ _ _ _) (e2))))); refine wpQuiet_nil ?_; intro _ hw'; obtain ⟨⟨w1, hb⟩, rfl⟩ := hw'; (try dsimp only); first | (replace hb := Below.via hb (by with_reducible assumption); (try clear hbc hbf hbz); obtain ⟨hbc, hbf, hbz⟩ := bcell hb) | (obtain ⟨hbc, hbf, hbz⟩ := bcell hb))
                go_wp2
                go_ret
                exact ⟨ret_bool (tt_false (fun h => by obtain ⟨_, _, h3⟩ := h.2 k hlt; exact h3 j hjl hjt ⟨by simpa using e1, e2⟩)).symm, by have hbw := HW.out; (repeat' (first | (with_reducible exact Below.refl _ _) | (with_reducible assumption) | (with_reducible refine Below.al ?_ _) | (with_reducible refine Below.drew ?_) | (with_reducible refine Below.drN ?_ _) | (with_reducible refine Below.via (by with_reducible assumption) ?_) | (with_reducible refine Below.setc ?_ ?_ _) | (with_reducible exact Nat.le_refl _) | (simp; done) | (simp; omega)))⟩
            · have hj' : j = k := by omega
              have HJ := Lib.hid hj'; clear hj'
              go_wp2
              exact ⟨⟨k + 1, by omega, by go_num, all_below_succ HA.out ⟨hlt, HV.out, fun i hi h => HI.out i hi (by rw [HJ.out]; exact h)⟩, HW.out⟩, by simp [intOf]; omega⟩
        · have HV := Lib.hid hv; clear hv
          go_wp2_with (go_at_call 69; refine (spec_validOp_any _ _ _ _).mono ?_; rintro e w1 ⟨rfl, hb1⟩; rw [HV.out])
          go_ret
          exact ⟨ret_bool (tt_false (fun h => by obtain ⟨_, h3, _⟩ := h.2 k hlt; have h4 : validB l[k] = false := HV.out; rw [h3] at h4; cases h4)).symm, by have hbw := HB.out; (repeat' (first | (with_reducible exact Below.refl _ _) | (with_reducible assumption) | (with_reducible refine Below.al ?_ _) | (with_reducible refine Below.drew ?_) | (with_reducible refine Below.drN ?_ _) | (with_reducible refine Below.via (by with_reducible assumption) ?_) | (with_reducible refine Below.setc ?_ ?_ _) | (with_reducible exact Nat.le_refl _) | (simp; done) | (simp; omega)))⟩
      · have hk' : k = l.length := by omega
        have HK := Lib.hid hk'; clear hk'
        go_wp2
        go_ret
        exact ⟨ret_bool (tt_true ⟨by omega, fun j h => HA.out j (by rw [HK.out]; exact h)⟩).symm, HB.out⟩


set_option maxHeartbeats 400000 in
theorem spec_endOf_any (A : Option Addr) (c : Nat) (l : List O3) (t : Int) (w : World) (hl : l.length ≤ maxLen) (hR : RdO w w.heap.size A l) :
    Calls Try.prog 72 #[.slice A l.length c, .int .i64 t] w fun e w' => e = .returned (.int .i64 (endL l t)) ∧ Below w.heap.size w w' := by
  unfold maxLen at hl
  go_enter Try.func72, Try.ntmps72
  go_wp2_with fail
  go_loopw [5] (fun i wr => ∃ k : Nat, k ≤ l.length ∧ i = .int .i64 k ∧ (∀ j (hj : j < l.length), j < k → (l[j].tx == t && endB l[j]) = false) ∧ Below w.heap.size w wr) (fun i _ => l.length - (intOf i).toNat)
  case atStart => exact ⟨0, Nat.zero_le _, rfl, fun j hj h => by omega, Below.refl _ _⟩
  case round =>
    obtain ⟨k, hk, rfl, hall, hbw⟩ := hrel
    have HA := Lib.hid hall; clear hall
    have HB := Lib.hid hbw; clear hbw
    by_cases hlt : k < l.length
    · obtain ⟨b, off, rfl, hb, h0, h1, h2⟩ := (hR.on HB.out).at_ hlt
      rcases and2 (l[k].tx == t) (endB ⟨l[k].tx, l[k].kind, l[k].item⟩) with e1 | ⟨e1, e2⟩ | ⟨e1, e2⟩
      · go_wp2_with fail
        exact ⟨⟨k + 1, by omega, by go_num, fun j hj h => by
          by_cases e : j = k
          · subst e; rw [e1]; rfl
          · exact HA.out j hj (by omega), by have hbw := HB.out; (repeat' (first | (with_reducible exact Below.refl _ _) | (with_reducible assumption) | (with_reducible refine Below.al ?_ _) | (with_reducible refine Below.drew ?_) | (with_reducible refine Below.drN ?_ _) | (with_reducible refine Below.via (by with_reducible assumption) ?_) | (with_reducible refine Below.setc ?_ ?_ _) | (with_reducible exact Nat.le_refl _) | (simp; done) | (simp; omega)))⟩, by simp [intOf]; omega⟩
      all_goals have E2 := Lib.hid e2; clear e2
      all_goals go_wp2_with (go_at_call 70; refine (spec_ends_any _ _ _ _).mono ?_; rintro e w1 ⟨rfl, hb1⟩; obtain ⟨hbc, hbf, hbz⟩ := bcell hb1; rw [E2.out])
      · exact ⟨⟨k + 1, by omega, by go_num, fun j hj h => by
          by_cases e : j = k
          · subst e; have h3 : endB l[j] = false := E2.out; rw [h3]; simp
          · exact HA.out j hj (by omega), by have hbw := HB.out; (repeat' (first | (with_reducible exact Below.refl _ _) | (with_reducible assumption) | (with_reducible refine Below.al ?_ _) | (with_reducible refine Below.drew ?_) | (with_reducible refine Below.drN ?_ _) | (with_reducible refine Below.via (by with_reducible assumption) ?_) | (with_reducible refine Below.setc ?_ ?_ _) | (with_reducible exact Nat.le_refl _) | (simp; done) | (simp; omega)))⟩, by simp [intOf]; omega⟩
      · go_ret
        have h3 : endB l[k] = true := E2.out
        exact ⟨ret_int (by rw [endL, find_step hlt HA.out (by rw [e1, h3]; rfl)]), by have hbw := HB.out; (repeat' (first | (with_reducible exact Below.refl _ _) | (with_reducible assumption) | (with_reducible refine Below.al ?_ _) | (with_reducible refine Below.drew ?_) | (with_reducible refine Below.drN ?_ _) | (with_reducible refine Below.via (by with_reducible assumption) ?_) | (with_reducible refine Below.setc ?_ ?_ _) | (with_reducible exact Nat.le_refl _) | (simp; done) | (simp; omega)))⟩
    · have hk' : k = l.length := by omega
      have HK := Lib.hid hk'; clear hk'
      go_wp2
      go_ret
      exact ⟨ret_int (by rw [endL, find_none (fun j hj => HA.out j hj (by rw [HK.out]; exact hj))]), HB.out⟩

set_option maxHeartbeats 400000 in
theorem impl_endOf_any (A : Option Addr) (c : Nat) (l : List O3) (t : Int) (w : World) (hl : l.length ≤ maxLen) (hR : RdO w w.heap.size A l) :
    Calls Try.prog 46 #[.slice A l.length c, .int .i64 t] w fun e w' => e = .returned (.int .i64 (endL l t)) ∧ Below w.heap.size w w' := by
  unfold maxLen at hl
  go_enter Try.func46, Try.ntmps46
  go_wp2_with fail
  go_loopw [9] (fun i wr => ∃ k : Nat, k ≤ l.length ∧ i = .int .i64 k ∧ (∀ j (hj : j < l.length), j < k → (l[j].tx == t && endB l[j]) = false) ∧ Below w.heap.size w wr) (fun i _ => l.length - (intOf i).toNat)
  case atStart => exact ⟨0, Nat.zero_le _, rfl, fun j hj h => by omega, Below.refl _ _⟩
  case round =>
    obtain ⟨k, hk, rfl, hall, hbw⟩ := hrel
    have HA := Lib.hid hall; clear hall
    have HB := Lib.hid hbw; clear hbw
    by_cases hlt : k < l.length
    · obtain ⟨b, off, rfl, hb, h0, h1, h2⟩ := (hR.on HB.out).at_ hlt
      rcases and2 (l[k].tx == t) (endB ⟨l[k].tx, l[k].kind, l[k].item⟩) with e1 | ⟨e1, e2⟩ | ⟨e1, e2⟩
      · go_wp2_with fail
        exact ⟨⟨k + 1, by omega, by go_num, fun j hj h => by
          by_cases e : j = k
          · subst e; rw [e1]; rfl
          · exact HA.out j hj (by omega), by have hbw := HB.out; (repeat' (first | (with_reducible exact Below.refl _ _) | (with_reducible assumption) | (with_reducible refine Below.al ?_ _) | (with_reducible refine Below.drew ?_) | (with_reducible refine Below.drN ?_ _) | (with_reducible refine Below.via (by with_reducible assumption) ?_) | (with_reducible refine Below.setc ?_ ?_ _) | (with_reducible exact Nat.le_refl _) | (simp; done) | (simp; omega)))⟩, by simp [intOf]; omega⟩
      all_goals have E2 := Lib.hid e2; clear e2
      all_goals go_wp2_with (go_at_call 76; refine (impl_ends_any _ _ _ _).mono ?_; rintro e w1 ⟨rfl, hb1⟩; obtain ⟨hbc, hbf, hbz⟩ := bcell hb1; rw [E2.out])
      · exact ⟨⟨k + 1, by omega, by go_num, fun j hj h => by
          by_cases e : j = k
          · subst e; have h3 : endB l[j] = false := E2.out; rw [h3]; simp
          · exact HA.out j hj (by omega), by have hbw := HB.out; (repeat' (first | (with_reducible exact Below.refl _ _) | (with_reducible assumption) | (with_reducible refine Below.al ?_ _) | (with_reducible refine Below.drew ?_) | (with_reducible refine Below.drN ?_ _) | (with_reducible refine Below.via (by with_reducible assumption) ?_) | (with_reducible refine Below.setc ?_ ?_ _) | (with_reducible exact Nat.le_refl _) | (simp; done) | (simp; omega)))⟩, by simp [intOf]; omega⟩
      · go_ret
        have h3 : endB l[k] = true := E2.out
        exact ⟨ret_int (by rw [endL, find_step hlt HA.out (by rw [e1, h3]; rfl)]), by have hbw := HB.out; (repeat' (first | (with_reducible exact Below.refl _ _) | (with_reducible assumption) | (with_reducible refine Below.al ?_ _) | (with_reducible refine Below.drew ?_) | (with_reducible refine Below.drN ?_ _) | (with_reducible refine Below.via (by with_reducible assumption) ?_) | (with_reducible refine Below.setc ?_ ?_ _) | (with_reducible exact Nat.le_refl _) | (simp; done) | (simp; omega)))⟩
    · have hk' : k = l.length := by omega
      have HK := Lib.hid hk'; clear hk'
      go_wp2
      go_ret
      exact ⟨ret_int (by rw [endL, find_none (fun j hj => HA.out j hj (by rw [HK.out]; exact hj))]), HB.out⟩
theorem take_len {l : List O3} {k : Nat} (hk : k ≤ l.length) : (l.take k).length = k := by rw [List.length_take]; omega
theorem impl_endOf_take (A : Option Addr) (c : Nat) (l : List O3) (k : Nat) (t : Int) (w : World) (hl : l.length ≤ maxLen) (hR : RdO w w.heap.size A l) (hk : k ≤ l.length) :
    Calls Try.prog 46 #[.slice A k c, .int .i64 t] w fun e w' => e = .returned (.int .i64 (endL (l.take k) t)) ∧ Below w.heap.size w w' := by
  have h := impl_endOf_any A c (l.take k) t w (by rw [take_len hk]; omega) (hR.take k)
  rwa [take_len hk] at h
set_option maxHeartbeats 1000000 in
theorem impl_ValidSchedule_any (A : Option Addr) (c : Nat) (l : List O3) (w : World) (hl : l.length ≤ maxLen) (hc : l.length ≤ c) (hR : RdO w w.heap.size A l) :
    Calls Try.prog 21 #[.slice A l.length c] w fun e w' => e = .returned (.bool (tt (ValidP l))) ∧ Below w.heap.size w w' := by
  have HL := Lib.hid hl
  unfold maxLen at hl
  go_enter Try.func21, Try.ntmps21
  go_wp2_with fail
  go_loopw [7] (fun i wr => ∃ k : Nat, k ≤ l.length ∧ i = .int .i64 k ∧ (∀ j, j < k → OkAt l j) ∧ Below w.heap.size w wr) (fun i _ => l.length - (intOf i).toNat)
  case atStart => exact ⟨0, Nat.zero_le _, rfl, fun j h => by omega, Below.refl _ _⟩
  case round =>
    obtain ⟨k, hk, rfl, hall, hbw⟩ := hrel
    have HA := Lib.hid hall; clear hall
    have HB := Lib.hid hbw; clear hbw
    by_cases hlt : k < l.length
    · have hRr := hR.on HB.out
      obtain ⟨b, off, rfl, hb, h0, h1, h2⟩ := hRr.at_ hlt
      have HR := Lib.hid hRr; clear hRr
      rcases Bool.eq_false_or_eq_true (validB ⟨l[k].tx, l[k].kind, l[k].item⟩) with hv | hv
      · have hkc : k ≤ c := by omega
        go_wp2_with fail
        ((first | (with_reducible refine wp_region_from (by with_reducible assumption) follows (by kernel_rfl) ?_) | (refine wp_region_aft follows (by kernel_rfl) ?_)); (repeat (go_big_quiet_step (first | (go_at_call 45; exact aftb (impl_valid_any _ _ _ _) (hv)) | (go_at_call 46; exact aft (impl_endOf_take _ _ l k _ _ HL.out ((HR.out.alloc (Nat.le_refl _) _ |>.more (by simp)).on (After.below _)) (by omega)))))); refine wpQuiet_nil ?_; intro _ hw'; obtain ⟨⟨w1, hb⟩, rfl⟩ := hw'; (try dsimp only); first | (replace hb := Below.via hb (by with_reducible assumption); (try clear hbc hbf hbz); obtain ⟨hbc, hbf, hbz⟩ := bcell hb) | (obtain ⟨hbc, hbf, hbz⟩ := bcell hb))
        go_wp2
        · go_ret
          exact ⟨ret_bool (tt_false (fun h => by have h3 := (okAt_iff hlt).1 (h.2 k hlt); exact h3.2 (by assumption))).symm, by have hbw := HB.out; (repeat' (first | (with_reducible exact Below.refl _ _) | (with_reducible assumption) | (with_reducible refine Below.al ?_ _) | (with_reducible refine Below.drew ?_) | (with_reducible refine Below.drN ?_ _) | (with_reducible refine Below.via (by with_reducible assumption) ?_) | (with_reducible refine Below.setc ?_ ?_ _) | (with_reducible exact Nat.le_refl _) | (simp; done) | (simp; omega)))⟩
        · exact ⟨⟨k + 1, by omega, by go_num, all_below_succ HA.out ((okAt_iff hlt).2 ⟨hv, by omega⟩), by have hbw := HB.out; (repeat' (first | (with_reducible exact Below.refl _ _) | (with_reducible assumption) | (with_reducible refine Below.al ?_ _) | (with_reducible refine Below.drew ?_) | (with_reducible refine Below.drN ?_ _) | (with_reducible refine Below.via (by with_reducible assumption) ?_) | (with_reducible refine Below.setc ?_ ?_ _) | (with_reducible exact Nat.le_refl _) | (simp; done) | (simp; omega)))⟩, by simp [intOf]; omega⟩
      · go_wp2_with fail
        ((first | (with_reducible refine wp_region_from (by with_reducible assumption) follows (by kernel_rfl) ?_) | (refine wp_region_aft follows (by kernel_rfl) ?_)); (repeat (go_big_quiet_step (first | (go_at_call 45; exact aftb (impl_valid_any _ _ _ _) (hv))))); refine wpQuiet_nil ?_; intro _ hw'; obtain ⟨⟨w1, hb⟩, rfl⟩ := hw'; (try dsimp only); first | (replace hb := Below.via hb (by with_reducible assumption); (try clear hbc hbf hbz); obtain ⟨hbc, hbf, hbz⟩ := bcell hb) | (obtain ⟨hbc, hbf, hbz⟩ := bcell hb))
        go_wp2
        go_ret
        exact ⟨ret_bool (tt_false (fun h => by have h3 := (okAt_iff hlt).1 (h.2 k hlt); have h4 : validB l[k] = false := hv; rw [h4] at h3; exact absurd h3.1 (by simp))).symm, by have hbw := HB.out; (repeat' (first | (with_reducible exact Below.refl _ _) | (with_reducible assumption) | (with_reducible refine Below.al ?_ _) | (with_reducible refine Below.drew ?_) | (with_reducible refine Below.drN ?_ _) | (with_reducible refine Below.via (by with_reducible assumption) ?_) | (with_reducible refine Below.setc ?_ ?_ _) | (with_reducible exact Nat.le_refl _) | (simp; done) | (simp; omega)))⟩
    · have hk' : k = l.length := by omega
      have HK := Lib.hid hk'; clear hk'
      go_wp2
      go_ret
      have e : decide (((l.length : Nat) : Int) ≤ 16) = tt (ValidP l) := by
        by_cases h16 : l.length ≤ 16
        · rw [tt_true ⟨h16, fun j h => HA.out j (by rw [HK.out]; exact h)⟩]; simp; omega
        · rw [tt_false (fun h => h16 h.1)]; simp; omega
      exact ⟨ret_bool e, HB.out⟩
end Go.Proofs.Ytaflkbemecjcpaa
