/- Two schedules with one order of conflicts: contract of the reference's IsSame. -/
import Derived.Test.YtaflkbemecjcpaaSmS
namespace Go.Proofs.Ytaflkbemecjcpaa
set_option linter.unusedSimpArgs false
set_option linter.unusedVariables false
open Go.RowKit
set_option maxRecDepth 100000 in
set_option maxHeartbeats 4000000 in
theorem spec_IsSame_any (A A' : Option Addr) (c c' : Nat) (a b : List O3) (w : World) (ha : a.length ≤ 1048576) (hbl : b.length ≤ 1048576) (hc : a.length ≤ c) (hc2 : b.length ≤ c') (hR : RdO w w.heap.size A a) (hR' : RdO w w.heap.size A' b) :
    Calls Try.prog 25 #[.slice A a.length c, .slice A' b.length c'] w fun e w' => e = .returned (.bool (isV a b)) ∧ Below w.heap.size w w' := by
  have HMa := Lib.hid (show a.length ≤ maxLen by unfold maxLen; omega)
  have HMb := Lib.hid (show b.length ≤ maxLen by unfold maxLen; omega)
  cases hva : tt (ValidP a)
  · have hs : isV a b = false := by unfold isV; rw [hva]; rfl
    rw [hs]
    have HVa := Lib.hid hva; clear hva hs
    go_enter Try.func25, Try.ntmps25
    go_wp2_with fail
    refine (spec_validSchedule_any _ _ _ _ HMa.out hR).mono ?_
    rintro e w1 ⟨rfl, hb1⟩
    rw [HVa.out]
    go_wp2
    go_ret
    exact ⟨rfl, by (repeat' (first | (with_reducible exact Below.refl _ _) | (with_reducible assumption) | (with_reducible refine Below.al ?_ _) | (with_reducible refine Below.drew ?_) | (with_reducible refine Below.drN ?_ _) | (with_reducible refine Below.via (by with_reducible assumption) ?_) | (with_reducible refine Below.setc ?_ ?_ _) | (with_reducible exact Nat.le_refl _) | (simp; done) | (simp; omega)))⟩
  · have HVa := Lib.hid hva
    cases hvb : tt (ValidP b)
    · have hs : isV a b = false := by unfold isV; rw [hva, hvb]; rfl
      rw [hs]
      have HVb := Lib.hid hvb; clear hva hvb hs
      go_enter Try.func25, Try.ntmps25
      go_wp2_with fail
      refine (spec_validSchedule_any _ _ _ _ HMa.out hR).mono ?_
      rintro e w1 ⟨rfl, hb1⟩
      rw [HVa.out]
      go_wp2_with fail
      refine (spec_validSchedule_any _ _ _ _ HMb.out (hR'.on hb1)).mono ?_
      rintro e w2 ⟨rfl, hb2⟩
      rw [HVb.out]
      go_wp2
      go_ret
      exact ⟨rfl, by (repeat' (first | (with_reducible exact Below.refl _ _) | (with_reducible assumption) | (with_reducible refine Below.al ?_ _) | (with_reducible refine Below.drew ?_) | (with_reducible refine Below.drN ?_ _) | (with_reducible refine Below.via (by with_reducible assumption) ?_) | (with_reducible refine Below.setc ?_ ?_ _) | (with_reducible exact Nat.le_refl _) | (simp; done) | (simp; omega)))⟩
    · have HVb := Lib.hid hvb
      cases hsm : sameB a b
      · have hs : isV a b = false := by unfold isV; rw [hva, hvb, hsm]; rfl
        rw [hs]
        have HS := Lib.hid hsm; clear hva hvb hsm hs
        go_enter Try.func25, Try.ntmps25
        go_wp2_with fail
        refine (spec_validSchedule_any _ _ _ _ HMa.out hR).mono ?_
        rintro e w1 ⟨rfl, hb1⟩
        rw [HVa.out]
        go_wp2_with fail
        refine (spec_validSchedule_any _ _ _ _ HMb.out (hR'.on hb1)).mono ?_
        rintro e w2 ⟨rfl, hb2⟩
        rw [HVb.out]
        go_wp2_with fail
        refine (spec_sameOps_any _ _ _ _ a b _ ha hbl ((hR.on hb1).on hb2) ((hR'.on hb1).on hb2)).mono ?_
        rintro e w3 ⟨rfl, hb3⟩
        rw [HS.out]
        go_wp2
        go_ret
        exact ⟨rfl, by (repeat' (first | (with_reducible exact Below.refl _ _) | (with_reducible assumption) | (with_reducible refine Below.al ?_ _) | (with_reducible refine Below.drew ?_) | (with_reducible refine Below.drN ?_ _) | (with_reducible refine Below.via (by with_reducible assumption) ?_) | (with_reducible refine Below.setc ?_ ?_ _) | (with_reducible exact Nat.le_refl _) | (simp; done) | (simp; omega)))⟩
      · have hs : isV a b = smB a b := by unfold isV; rw [hva, hvb, hsm]; simp
        rw [hs]
        have HS := Lib.hid hsm
        have hPa : ValidP a := tt_eq.1 hva
        have ha16 := hPa.1
        have hPb : ValidP b := tt_eq.1 hvb
        have hb16 := hPb.1
        have HVA := Lib.hid (fun o (ho : o ∈ a) => show validB o = true by obtain ⟨k, hk, rfl⟩ := List.getElem_of_mem ho; exact (hPa.2 k hk).2.1)
        clear hva hvb hsm hs hPa hPb
        go_enter Try.func25, Try.ntmps25
        go_wp2_with fail
        refine (spec_validSchedule_any _ _ _ _ HMa.out hR).mono ?_
        rintro e w1 ⟨rfl, hb1⟩
        rw [HVa.out]
        go_wp2_with fail
        refine (spec_validSchedule_any _ _ _ _ HMb.out (hR'.on hb1)).mono ?_
        rintro e w2 ⟨rfl, hb2⟩
        rw [HVb.out]
        go_wp2_with fail
        refine (spec_sameOps_any _ _ _ _ a b _ ha hbl ((hR.on hb1).on hb2) ((hR'.on hb1).on hb2)).mono ?_
        rintro e w3 ⟨rfl, hb3⟩
        rw [HS.out]
        have B3 := Lib.hid (Below.trans hb1 ((Below.trans hb2 (hb3.mono hb2.size)).mono hb1.size))
        have RA := Lib.hid (hR.on B3.out)
        have RB := Lib.hid (hR'.on B3.out)
        clear hb1 hb2 hb3
        go_wp2_with fail
        go_loopw [5, 6] (fun v5 _ wr => ∃ i : Nat, i ≤ a.length ∧ v5 = .int .i64 i ∧ (∀ i' k, i' < i → i' < k → k < a.length → violS a b i' k = false) ∧ Below w3.heap.size w3 wr) (fun v5 _ _ => a.length - (intOf v5).toNat)
        case atStart => exact ⟨0, Nat.zero_le _, rfl, fun _ _ h => by omega, Below.refl _ _⟩
        case round =>
          obtain ⟨i, hi, rfl, hall, hbw⟩ := hrel
          have HA := Lib.hid hall; clear hall
          have HB := Lib.hid hbw; clear hbw
          by_cases hlt : i < a.length
          · obtain ⟨wo, hwo⟩ : ∃ wo : World, wo = wr := ⟨_, rfl⟩
            subst hwo
            go_wp2_with fail
            go_loopw [6] (fun v6 wr => ∃ k : Nat, i + 1 ≤ k ∧ k ≤ a.length ∧ v6 = .int .i64 k ∧ (∀ k', i < k' → k' < k → violS a b i k' = false) ∧ Below w3.heap.size w3 wr) (fun v6 _ => a.length - (intOf v6).toNat)
            case atStart => exact ⟨i + 1, Nat.le_refl _, by omega, by go_num, fun _ h1 h2 => by omega, HB.out⟩
            case round =>
              obtain ⟨k, hik, hk, rfl, hall, hbw⟩ := hrel
              have HA2 := Lib.hid hall; clear hall
              have HB2 := Lib.hid hbw; clear hbw
              by_cases hkl : k < a.length
              · have RA2 := Lib.hid (RA.out.on HB2.out)
                have RB2 := Lib.hid (RB.out.on HB2.out)
                obtain ⟨b0, off, rfl, hb0, h0, h1, h2⟩ := RA2.out.at_ hlt
                obtain ⟨b0', off', he, hb0', s0, s1, s2⟩ := RA2.out.at_ hkl
                injection he with he; injection he with he1 he2
                subst he1 he2
                have HCA := Lib.hid (cfAt_eq hlt hkl)
                have HPi := Lib.hid (show plI a b i = placeV b a[i].tx (nmI a i) by unfold plI; rw [txI_eq hlt])
                have HPk := Lib.hid (show plI a b k = placeV b a[k].tx (nmI a k) by unfold plI; rw [txI_eq hkl])
                have hni := num_le a (txI a i) i
                have hnk := num_le a (txI a k) k
                have HNi := Lib.hid (show nmI a i ≤ 1048576 by unfold nmI; omega)
                have HNk := Lib.hid (show nmI a k ≤ 1048576 by unfold nmI; omega)
                clear hni hnk
                cases hcf : conflB a[i] a[k]
                all_goals have HCF := Lib.hid ((confl_same (HVA.out _ (List.getElem_mem hlt)) (HVA.out _ (List.getElem_mem hkl))).trans hcf)
                · have HN := Lib.hid (show violS a b i k = false by unfold violS; rw [HCA.out, hcf]; rfl)
                  clear hcf
                  go_wp2_with fail
                  ((first | (with_reducible refine wp_region_from (by with_reducible assumption) follows (by kernel_rfl) ?_) | (refine wp_region_aft follows (by kernel_rfl) ?_)); (repeat (go_big_quiet_step ((go_at_call 51; exact aftb (spec_conflict_any _ _ _ _ _ _ _) (HCF.out))))); refine wpQuiet_nil ?_; intro _ hw'; obtain ⟨⟨w1, hb⟩, rfl⟩ := hw'; (try dsimp only); first | (replace hb := Below.via hb (by with_reducible assumption); (try clear hbc hbf hbz); obtain ⟨hbc, hbf, hbz⟩ := bcell hb) | (obtain ⟨hbc, hbf, hbz⟩ := bcell hb))
                  go_wp2
                  exact ⟨⟨k + 1, by omega, by omega, by go_num, fun k' h1 h2 => by
                    by_cases h : k' = k
                    · subst h; exact HN.out
                    · exact HA2.out k' h1 (by omega), Below.trans HB2.out (hb.mono HB2.out.size)⟩, by simp [intOf]; omega⟩
                · have HV := Lib.hid (show violS a b i k = decide (placeV b a[k].tx (nmI a k) < placeV b a[i].tx (nmI a i)) by unfold violS; rw [HCA.out, hcf, HPi.out, HPk.out, Bool.true_and])
                  clear hcf
                  by_cases hq : placeV b a[k].tx (nmI a k) < placeV b a[i].tx (nmI a i)
                  · have HN := Lib.hid (show violS a b i k = true by rw [HV.out]; simpa using hq)
                    go_wp2_with fail
                    ((first | (with_reducible refine wp_region_from (by with_reducible assumption) follows (by kernel_rfl) ?_) | (refine wp_region_aft follows (by kernel_rfl) ?_)); (repeat (go_big_quiet_step (first | (go_at_call 51; exact aftb (spec_conflict_any _ _ _ _ _ _ _) (HCF.out)) | (go_at_call 53; exact aft (spec_numberOf_any _ _ a _ _ (by omega) (by first | exact hlt | exact hkl) (RA2.out.on (After.below _)))) | (go_at_call 52; exact aft_same (spec_placeOf_any _ _ b _ _ _ (by omega) (by first | exact HNi.out | exact HNk.out) (RB2.out.on (After.below _))))))); refine wpQuiet_nil ?_; intro _ hw'; obtain ⟨⟨w1, hb⟩, rfl⟩ := hw'; (try dsimp only); first | (replace hb := Below.via hb (by with_reducible assumption); (try clear hbc hbf hbz); obtain ⟨hbc, hbf, hbz⟩ := bcell hb) | (obtain ⟨hbc, hbf, hbz⟩ := bcell hb))
                    go_wp2
                    go_ret
                    exact ⟨ret_bool (tt_false (fun h => by have := h i k (by omega) hkl; rw [HN.out] at this; cases this)).symm, Below.trans B3.out ((Below.trans HB2.out (hb.mono HB2.out.size)).mono B3.out.size)⟩
                  · have HN := Lib.hid (show violS a b i k = false by rw [HV.out]; simpa using hq)
                    go_wp2_with fail
                    ((first | (with_reducible refine wp_region_from (by with_reducible assumption) follows (by kernel_rfl) ?_) | (refine wp_region_aft follows (by kernel_rfl) ?_)); (repeat (go_big_quiet_step (first | (go_at_call 51; exact aftb (spec_conflict_any _ _ _ _ _ _ _) (HCF.out)) | (go_at_call 53; exact aft (spec_numberOf_any _ _ a _ _ (by omega) (by first | exact hlt | exact hkl) (RA2.out.on (After.below _)))) | (go_at_call 52; exact aft_same (spec_placeOf_any _ _ b _ _ _ (by omega) (by first | exact HNi.out | exact HNk.out) (RB2.out.on (After.below _))))))); refine wpQuiet_nil ?_; intro _ hw'; obtain ⟨⟨w1, hb⟩, rfl⟩ := hw'; (try dsimp only); first | (replace hb := Below.via hb (by with_reducible assumption); (try clear hbc hbf hbz); obtain ⟨hbc, hbf, hbz⟩ := bcell hb) | (obtain ⟨hbc, hbf, hbz⟩ := bcell hb))
                    go_wp2
                    exact ⟨⟨k + 1, by omega, by omega, by go_num, fun k' h1 h2 => by
                      by_cases h : k' = k
                      · subst h; exact HN.out
                      · exact HA2.out k' h1 (by omega), Below.trans HB2.out (hb.mono HB2.out.size)⟩, by simp [intOf]; omega⟩
              · have hk' : k = a.length := by omega
                have HK := Lib.hid hk'; clear hk'
                go_wp2
                exact ⟨⟨i + 1, by omega, by go_num, fun i' k' h1 h2 h3 => by
                  by_cases h : i' = i
                  · subst h; exact HA2.out k' h2 (by rw [HK.out]; exact h3)
                  · exact HA.out i' k' (by omega) h2 h3, HB2.out⟩, by simp [intOf]; omega⟩
          · go_wp2
            go_ret
            exact ⟨ret_bool (tt_true (fun i' k' h1 h2 => HA.out i' k' (by omega) h1 h2)).symm, Below.trans B3.out (HB.out.mono B3.out.size)⟩
end Go.Proofs.Ytaflkbemecjcpaa
