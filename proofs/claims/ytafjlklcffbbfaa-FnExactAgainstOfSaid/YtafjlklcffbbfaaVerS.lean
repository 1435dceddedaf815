/- Who commits on snapshots: contracts of the reference's functions. -/
import Derived.Test.YtafjlklcffbbfaaVerM
namespace Go.Proofs.Ytafjlklcffbbfaa
set_option linter.unusedSimpArgs false
set_option linter.unusedVariables false
open Go.RowKit

theorem any_take_one {α : Type} (p : α → Bool) {l : List α} {j : Nat} (hj : j < l.length) : (l.take (j + 1)).any p = ((l.take j).any p || p l[j]) := by
  rw [List.take_succ_eq_append_getElem hj, List.any_append]; simp
theorem all_take_one {α : Type} (p : α → Bool) {l : List α} {j : Nat} (hj : j < l.length) : (l.take (j + 1)).all p = ((l.take j).all p && p l[j]) := by
  rw [List.take_succ_eq_append_getElem hj, List.all_append]; simp
theorem all_take_false {α : Type} {p : α → Bool} {l : List α} {j : Nat} (h : (l.take j).all p = false) : l.all p = false := by
  rw [List.all_eq_false] at *
  obtain ⟨x, hx, hp⟩ := h
  exact ⟨x, List.mem_of_mem_take hx, hp⟩
theorem tch_next {l : List O3} {k : Nat} {t kd x : Int} (hk : k < l.length) : tchB l (k + 1) t kd x = (tchB l k t kd x || (l[k].tx == t && (l[k].kind == kd && l[k].item == x))) := by
  unfold tchB; rw [any_take_one _ hk]
theorem tch_hit {l : List O3} {k i : Nat} {t kd x : Int} (hk : k < l.length) (hi : k < i) (h : (l[k].tx == t && (l[k].kind == kd && l[k].item == x)) = true) : tchB l i t kd x = true := by
  unfold tchB
  rw [List.any_eq_true]
  exact ⟨l[k], take_mem.2 ⟨k, hk, hi, rfl⟩, h⟩
set_option maxHeartbeats 1000000 in
theorem spec_touches_any (A : Option Addr) (c : Nat) (l : List O3) (i : Nat) (t kd x : Int) (w : World) (hi : i ≤ l.length) (hl : l.length ≤ maxLen) (hR : RdO w w.heap.size A l) :
    Calls Try.prog 55 #[.slice A l.length c, .int .i64 i, .int .i64 t, .int .i64 kd, .int .i64 x] w fun e w' => e = .returned (.bool (tchB l i t kd x)) ∧ w = w' := by
  unfold maxLen at hl
  go_enter Try.func55, Try.ntmps55
  go_wp2_with fail
  go_loop [11] (fun v => ∃ k : Nat, k ≤ i ∧ v = .int .i64 k ∧ tchB l k t kd x = false) (fun v => i - (intOf v).toNat)
  case atStart => exact ⟨0, Nat.zero_le _, rfl, rfl⟩
  case round =>
    obtain ⟨k, hk, rfl, hall⟩ := hrel
    have HA := Lib.hid hall; clear hall
    by_cases hlt : k < i
    · have hkl : k < l.length := by omega
      obtain ⟨b, off, rfl, hb, h0, h1, h2⟩ := hR.at_ hkl
      rcases and3 (l[k].tx == t) (l[k].kind == kd) (l[k].item == x) with e1 | ⟨e1, e2⟩ | ⟨e1, e2, e3⟩ | ⟨e1, e2, e3⟩
      · have HN := Lib.hid (show tchB l (k + 1) t kd x = false by rw [tch_next hkl, HA.out, e1]; rfl)
        go_wp2
        exact ⟨⟨k + 1, by omega, by go_num, HN.out⟩, by simp [intOf]; omega⟩
      · have HN := Lib.hid (show tchB l (k + 1) t kd x = false by rw [tch_next hkl, HA.out, e1, e2]; rfl)
        go_wp2
        exact ⟨⟨k + 1, by omega, by go_num, HN.out⟩, by simp [intOf]; omega⟩
      · have HN := Lib.hid (show tchB l (k + 1) t kd x = false by rw [tch_next hkl, HA.out, e1, e2, e3]; rfl)
        go_wp2
        exact ⟨⟨k + 1, by omega, by go_num, HN.out⟩, by simp [intOf]; omega⟩
      · have HY := Lib.hid (tch_hit (i := i) hkl hlt (show (l[k].tx == t && (l[k].kind == kd && l[k].item == x)) = true by rw [e1, e2, e3]; rfl))
        go_wp2
        go_ret
        exact ⟨ret_bool HY.out.symm, rfl⟩
    · have hk' : k = i := by omega
      subst hk'
      go_wp2
      go_ret
      exact ⟨ret_bool HA.out.symm, rfl⟩
set_option maxHeartbeats 400000 in
theorem spec_commitAt_any (A : Option Addr) (c : Nat) (l : List O3) (t : Int) (w : World) (hl : l.length ≤ maxLen) (hR : RdO w w.heap.size A l) :
    Calls Try.prog 45 #[.slice A l.length c, .int .i64 t] w fun e w' => e = .returned (.int .i64 (comAt l t)) ∧ w = w' := by
  unfold maxLen at hl
  go_enter Try.func45, Try.ntmps45
  go_wp2_with fail
  go_loop [5] (fun i => ∃ k : Nat, k ≤ l.length ∧ i = .int .i64 k ∧ (l.take k).findIdx? (fun o => o.tx == t && o.kind == 2) = none) (fun i => l.length - (intOf i).toNat)
  case atStart => exact ⟨0, Nat.zero_le _, rfl, rfl⟩
  case round =>
    obtain ⟨k, hk, rfl, hall⟩ := hrel
    have HA := Lib.hid hall; clear hall
    by_cases hlt : k < l.length
    · obtain ⟨b, off, rfl, hb, h0, h1, h2⟩ := hR.at_ hlt
      rcases and2 (l[k].tx == t) (l[k].kind == 2) with e1 | ⟨e1, e2⟩ | ⟨e1, e2⟩
      · have HN := Lib.hid (idx_on (p := fun o : O3 => o.tx == t && o.kind == 2) hlt HA.out (by simp only [e1]; rfl))
        go_wp2
        exact ⟨⟨k + 1, by omega, by go_num, HN.out⟩, by simp [intOf]; omega⟩
      · have HN := Lib.hid (idx_on (p := fun o : O3 => o.tx == t && o.kind == 2) hlt HA.out (by simp only [e1, e2]; rfl))
        go_wp2
        exact ⟨⟨k + 1, by omega, by go_num, HN.out⟩, by simp [intOf]; omega⟩
      · have HY := Lib.hid (idx_hit (p := fun o : O3 => o.tx == t && o.kind == 2) hlt HA.out (by simp only [e1, e2]; rfl))
        go_wp2
        go_ret
        refine ⟨ret_int ?_, rfl⟩
        have h := HY.out
        unfold idxB at h
        unfold comAt
        cases hf : l.findIdx? (fun o => o.tx == t && o.kind == 2) with
        | none => rw [hf] at h; exfalso; revert h; simp; try omega
        | some i => rw [hf] at h; simpa using h
    · have hk' : k = l.length := by omega
      have HK := Lib.hid hk'; clear hk'
      go_wp2
      go_ret
      refine ⟨ret_int ?_, rfl⟩
      have h := HA.out
      rw [HK.out, List.take_length] at h
      rw [comAt, h]
      rfl
theorem meet_hit {l : List O3} {t u : Int} {k : Nat} (h1 : tchB l l.length t 1 k = true) (h2 : tchB l l.length u 1 k = true) : ∀ n, k < n → meetTo l t u n = true := by
  intro n
  induction n with
  | zero => intro h; omega
  | succ n ih =>
    intro h
    by_cases e : k = n
    · subst e; simp [meetTo, h1, h2]
    · simp [meetTo, ih (by omega)]
set_option maxHeartbeats 1000000 in
theorem spec_meets_any (A : Option Addr) (c : Nat) (l : List O3) (t u : Int) (w : World) (hl : l.length ≤ maxLen) (hR : RdO w w.heap.size A l) :
    Calls Try.prog 47 #[.slice A l.length c, .int .i64 t, .int .i64 u] w fun e w' => e = .returned (.bool (meetTo l t u 3)) ∧ w = w' := by
  have HM := Lib.hid hl; clear hl
  go_enter Try.func47, Try.ntmps47
  go_wp2_with fail
  go_loop [7] (fun v => ∃ k : Nat, k ≤ 3 ∧ v = .int .i64 k ∧ meetTo l t u k = false) (fun v => 3 - (intOf v).toNat)
  case atStart => exact ⟨0, Nat.zero_le _, rfl, rfl⟩
  case round =>
    obtain ⟨k, hk, rfl, hall⟩ := hrel
    have HA := Lib.hid hall; clear hall
    by_cases hlt : k < 3
    · have hlt' : (k : Int) < 3 := by omega
      cases e1 : tchB l l.length t 1 k
      · have HN := Lib.hid (show meetTo l t u (k + 1) = false by rw [meetTo, HA.out, e1]; rfl)
        have H1 := Lib.hid e1; clear e1
        go_wp2_with (go_at_call 55; refine (spec_touches_any _ _ l l.length _ _ _ _ (Nat.le_refl _) HM.out hR).mono ?_; rintro e w1 ⟨rfl, rfl⟩; rw [H1.out])
        exact ⟨⟨k + 1, by omega, by go_num, HN.out⟩, by simp [intOf]; omega⟩
      · cases e2 : tchB l l.length u 1 k
        · have HN := Lib.hid (show meetTo l t u (k + 1) = false by rw [meetTo, HA.out, e1, e2]; rfl)
          have H1 := Lib.hid e1; have H2 := Lib.hid e2; clear e1 e2
          go_wp2_with fail
          refine (spec_touches_any _ _ l l.length _ _ _ _ (Nat.le_refl _) HM.out hR).mono ?_
          rintro e w1 ⟨rfl, rfl⟩
          rw [H1.out]
          go_wp2_with fail
          refine (spec_touches_any _ _ l l.length _ _ _ _ (Nat.le_refl _) HM.out hR).mono ?_
          rintro e w1 ⟨rfl, rfl⟩
          rw [H2.out]
          go_wp2
          exact ⟨⟨k + 1, by omega, by go_num, HN.out⟩, by simp [intOf]; omega⟩
        · have HY := Lib.hid (meet_hit e1 e2 3 hlt)
          have H1 := Lib.hid e1; have H2 := Lib.hid e2; clear e1 e2
          go_wp2_with fail
          refine (spec_touches_any _ _ l l.length _ _ _ _ (Nat.le_refl _) HM.out hR).mono ?_
          rintro e w1 ⟨rfl, rfl⟩
          rw [H1.out]
          go_wp2_with fail
          refine (spec_touches_any _ _ l l.length _ _ _ _ (Nat.le_refl _) HM.out hR).mono ?_
          rintro e w1 ⟨rfl, rfl⟩
          rw [H2.out]
          go_wp2
          go_ret
          exact ⟨ret_bool HY.out.symm, rfl⟩
    · have hk' : k = 3 := by omega
      have HK := Lib.hid hk'
      go_wp2
      go_ret
      exact ⟨ret_bool (by have h := HA.out; rw [HK.out] at h; exact h.symm), rfl⟩
set_option maxHeartbeats 2000000 in
theorem spec_survivors_any (A : Option Addr) (c : Nat) (l : List O3) (w : World) (hl16 : l.length ≤ 1000) (hR : RdO w w.heap.size A l) :
    Calls Try.prog 28 #[.slice A l.length c] w fun e w' => (∃ v, e = .returned v ∧ OwnI w' w.heap.size 3 v (survL l)) ∧ Below w.heap.size w w' := by
  obtain ⟨i0, hi0, hz0, hz1, hz2⟩ := info_parts info_I
  have HM := Lib.hid (show l.length ≤ maxLen by unfold maxLen; omega)
  go_enter Try.func28, Try.ntmps28
  go_wp2_with fail
  have hB0 : Below w.heap.size w (w.alloc (Obj.cells #[] 3)) := by (repeat' (first | (with_reducible exact Below.refl _ _) | (with_reducible assumption) | (with_reducible refine Below.al ?_ _) | (with_reducible refine Below.drew ?_) | (with_reducible refine Below.drN ?_ _) | (with_reducible refine Below.via (by with_reducible assumption) ?_) | (with_reducible refine Below.setc ?_ ?_ _) | (with_reducible exact Nat.le_refl _) | (simp; done) | (simp; omega)))
  have hO0 : AppI (w.alloc (Obj.cells #[] 3)) w.heap.size 3 (.slice (some ⟨w.heap.size, 0, none⟩) 0 0) [] := AppI.made (Nat.le_refl _) _ _ (by simp [maxLen]) rfl
  go_loopw [3, 4] (fun v i wr => ∃ (k : Nat) (A' : Option Addr) (c' : Nat), k ≤ l.length ∧ i = .int .i64 k ∧ v = .slice A' (survTo l k).length c' ∧ AppI wr w.heap.size 3 (.slice A' (survTo l k).length c') (survTo l k) ∧ Below w.heap.size w wr) (fun _ i _ => l.length - (intOf i).toNat)
  case atStart => exact ⟨0, _, _, Nat.zero_le _, rfl, rfl, hO0, hB0⟩
  case round =>
    obtain ⟨k, A', c', hk, rfl, rfl, hown, hbw⟩ := hrel
    have HO := Lib.hid hown; clear hown hO0
    have HB := Lib.hid hbw; clear hbw hB0
    have hle := surv_le l k
    by_cases hlt : k < l.length
    · obtain ⟨b, off, rfl, hb, h0, h1, h2⟩ := (hR.on HB.out).at_ hlt
      obtain ⟨wo, hwo⟩ : ∃ wo : World, wo = wr := ⟨_, rfl⟩
      subst hwo
      have HT := Lib.hid (show (l[k].kind == 2) = (l[k].kind == 2 && ((survTo l k).take 0).all (fun u => okB l u l[k].tx)) by simp)
      go_wp2_with fail
      go_loopw [5, 6] (fun v5 v6 wr => ∃ j : Nat, j ≤ (survTo l k).length ∧ v6 = .int .i64 j ∧ v5 = .bool (l[k].kind == 2 && ((survTo l k).take j).all (fun u => okB l u l[k].tx)) ∧ Below wo.heap.size wo wr) (fun _ v6 _ => (survTo l k).length - (intOf v6).toNat)
      case atStart => exact ⟨0, Nat.zero_le _, rfl, by rw [← HT.out], Below.refl _ _⟩
      case round =>
        obtain ⟨j, hj, rfl, rfl, hbw⟩ := hrel
        have HI := Lib.hid hbw; clear hbw
        cases eok : (l[k].kind == 2 && ((survTo l k).take j).all (fun u => okB l u l[k].tx))
        · have HF := Lib.hid (show (l[k].kind == 2 && (survTo l k).all (fun u => okB l u l[k].tx)) = false by
            cases ek : (l[k].kind == 2)
            · rfl
            · rw [ek, Bool.true_and] at eok
              rw [all_take_false eok]; rfl)
          have HN := Lib.hid (surv_no hlt HF.out)
          clear eok
          by_cases hjl : j < (survTo l k).length
          · go_wp2_with fail
            exact ⟨⟨k + 1, A', c', by omega, by go_num, by rw [HN.out], by rw [HN.out]; exact HO.out.on HI.out, Below.via HI.out HB.out⟩, by simp [intOf]; omega⟩
          · go_wp2_with fail
            exact ⟨⟨k + 1, A', c', by omega, by go_num, by rw [HN.out], by rw [HN.out]; exact HO.out.on HI.out, Below.via HI.out HB.out⟩, by simp [intOf]; omega⟩
        · have hkind : (l[k].kind == 2) = true := (Bool.and_eq_true_iff.1 eok).1
          rw [hkind, Bool.true_and] at eok
          by_cases hjl : j < (survTo l k).length
          · have HNX := Lib.hid (show (l[k].kind == 2 && ((survTo l k).take (j + 1)).all (fun u => okB l u l[k].tx)) = okB l (survTo l k)[j] l[k].tx by rw [all_take_one _ hjl, eok, hkind]; simp)
            clear eok hkind
            obtain ⟨b', off', he, hb', q0⟩ := (HO.out.on HI.out).own.rd.at_ hjl
            subst he
            have RW := Lib.hid ((hR.on HB.out).on HI.out)
            obtain ⟨b2, off2, he2, hb2, r0, r1, r2⟩ := RW.out.at_ hlt
            injection he2 with he2; injection he2 with he3 he4
            subst he3 he4
            generalize hgu : (survTo l k)[j] = u at *
            by_cases h1 : comAt l u < firstOf l l[k].tx
            · have HOK := Lib.hid (show okB l u l[k].tx = true by unfold okB; simp [h1])
              have hlt1 : (comAt l u : Int) < (firstOf l l[k].tx : Int) := by omega
              go_wp2_with fail
              ((first | (with_reducible refine wp_region_from (by with_reducible assumption) follows (by kernel_rfl) ?_) | (refine wp_region_aft follows (by kernel_rfl) ?_)); (repeat (go_big_quiet_step (first | (go_at_call 45; exact aft_same (spec_commitAt_any _ _ _ _ _ HM.out (RW.out.on (After.below _)))) | (go_at_call 46; exact aft_same (spec_stampOf_any _ _ _ _ _ HM.out (RW.out.on (After.below _))))))); refine wpQuiet_nil ?_; intro _ hw'; obtain ⟨⟨w1, hb⟩, rfl⟩ := hw'; (try dsimp only); first | (replace hb := Below.via hb (by with_reducible assumption); (try clear hbc hbf hbz); obtain ⟨hbc, hbf, hbz⟩ := bcell hb) | (obtain ⟨hbc, hbf, hbz⟩ := bcell hb))
              go_wp2
              exact ⟨⟨j + 1, by omega, by go_num, by rw [HNX.out, HOK.out], by have hbw := HI.out; (repeat' (first | (with_reducible exact Below.refl _ _) | (with_reducible assumption) | (with_reducible refine Below.al ?_ _) | (with_reducible refine Below.drew ?_) | (with_reducible refine Below.drN ?_ _) | (with_reducible refine Below.via (by with_reducible assumption) ?_) | (with_reducible refine Below.setc ?_ ?_ _) | (with_reducible exact Nat.le_refl _) | (simp; done) | (simp; omega)))⟩, by simp [intOf]; omega⟩
            · have HOK := Lib.hid (show okB l u l[k].tx = !meetTo l l[k].tx u 3 by unfold okB; simp [h1])
              have hlt1 : ¬ (comAt l u : Int) < (firstOf l l[k].tx : Int) := by omega
              go_wp2_with fail
              ((first | (with_reducible refine wp_region_from (by with_reducible assumption) follows (by kernel_rfl) ?_) | (refine wp_region_aft follows (by kernel_rfl) ?_)); (repeat (go_big_quiet_step (first | (go_at_call 45; exact aft_same (spec_commitAt_any _ _ _ _ _ HM.out (RW.out.on (After.below _)))) | (go_at_call 46; exact aft_same (spec_stampOf_any _ _ _ _ _ HM.out (RW.out.on (After.below _)))) | (go_at_call 47; exact aft_same (spec_meets_any _ _ _ _ _ _ HM.out (RW.out.on (After.below _))))))); refine wpQuiet_nil ?_; intro _ hw'; obtain ⟨⟨w1, hb⟩, rfl⟩ := hw'; (try dsimp only); first | (replace hb := Below.via hb (by with_reducible assumption); (try clear hbc hbf hbz); obtain ⟨hbc, hbf, hbz⟩ := bcell hb) | (obtain ⟨hbc, hbf, hbz⟩ := bcell hb))
              go_wp2
              exact ⟨⟨j + 1, by omega, by go_num, by rw [HNX.out, HOK.out], by have hbw := HI.out; (repeat' (first | (with_reducible exact Below.refl _ _) | (with_reducible assumption) | (with_reducible refine Below.al ?_ _) | (with_reducible refine Below.drew ?_) | (with_reducible refine Below.drN ?_ _) | (with_reducible refine Below.via (by with_reducible assumption) ?_) | (with_reducible refine Below.setc ?_ ?_ _) | (with_reducible exact Nat.le_refl _) | (simp; done) | (simp; omega)))⟩, by simp [intOf]; omega⟩
          · have hj' : j = (survTo l k).length := by omega
            have HY := Lib.hid (surv_yes hlt (show (l[k].kind == 2 && (survTo l k).all (fun u => okB l u l[k].tx)) = true by rw [hj', List.take_length] at eok; rw [hkind, eok]; rfl))
            clear eok hkind hj'
            have HO2 := Lib.hid (HO.out.on HI.out)
            have B2 := Lib.hid (Below.via HI.out HB.out)
            have hsz := B2.out.size
            have hl4 : (survTo l k).length ≤ 4194304 := by omega
            obtain ⟨b2, off2, he2, hb2, r0, r1, r2⟩ := ((hR.on HB.out).on HI.out).at_ hlt
            injection he2 with he2; injection he2 with he3 he4
            subst he3 he4
            go_wp2_with (at_builtin; refine wpList_app_i _ 24 3 i0 rfl _ _ rfl Try.underlying24 hi0 hz0 hz1 hz2 w.heap.size _ _ rfl HO2.out l[k].tx _ rfl (by first | rfl | simp) hl4 hsz ?_; intro A5 c5 w5 hO5 hg5 hb5)
            exact ⟨⟨k + 1, A5, c5, by omega, by go_num, by rw [HY.out]; simp, by rw [HY.out, List.length_append]; exact hO5, B2.out.trans hb5⟩, by simp [intOf]; omega⟩
    · have hk' : k = l.length := by omega
      have HK := Lib.hid hk'; clear hk'
      go_wp2
      go_ret
      exact ⟨⟨_, rfl, by have h := HO.out.own; rw [HK.out] at h; rw [HK.out]; exact h⟩, HB.out⟩
end Go.Proofs.Ytafjlklcffbbfaa
