/- The first operation that breaks a rule: contract of the program's last rule. -/
import Derived.Test.YtafjlklcffbbfaaFauR
namespace Go.Proofs.Ytafjlklcffbbfaa
set_option linter.unusedSimpArgs false
set_option linter.unusedVariables false
open Go.RowKit
set_option maxHeartbeats 4000000 in
theorem impl_rule4_any (A : Option Addr) (c : Nat) (l : List O3) (i : Nat) (w : World) (hi : i < l.length) (hl : l.length ≤ 1000) (hc : l.length ≤ c) (hc2 : c ≤ maxLen) (hR : RdO w w.heap.size A l) :
    Calls Try.prog 71 #[.slice A l.length c, .int .i64 i] w fun e w' => e = .returned (.bool (brkI 4 l i)) ∧ Below w.heap.size w w' := by
  have HM := Lib.hid (show l.length ≤ maxLen by unfold maxLen; omega)
  unfold maxLen at hc2
  have hic : i ≤ c := by omega
  have hB : brkI 4 l i = ((l[i].kind == 2) && anyTo (p4I l i) i) := by show ((atO l i).kind == 2 && anyTo (p4I l i) i) = _; rw [atO_eq hi]
  have HRA := Lib.hid hR
  obtain ⟨b0, off0, rfl, hb0, g0, g1, g2⟩ := hR.at_ hi
  cases e1 : (l[i].kind == 2)
  · have HD := Lib.hid (show brkI 4 l i = false by rw [hB, e1]; rfl)
    have e1' := bne_t e1
    clear hB e1
    go_enter Try.func71, Try.ntmps71
    go_wp2_with fail
    go_ret
    exact ⟨ret_bool HD.out.symm, by (repeat' (first | (with_reducible exact Below.refl _ _) | (with_reducible assumption) | (with_reducible refine Below.al ?_ _) | (with_reducible refine Below.drew ?_) | (with_reducible refine Below.drN ?_ _) | (with_reducible refine Below.via (by with_reducible assumption) ?_) | (with_reducible refine Below.setc ?_ ?_ _) | (with_reducible exact Nat.le_refl _) | (simp; done) | (simp; omega)))⟩
  · have HD := Lib.hid (show brkI 4 l i = anyTo (p4I l i) i by rw [hB, e1]; rfl)
    have e1' := bne_f e1
    clear hB e1
    go_enter Try.func71, Try.ntmps71
    go_wp2_with fail
    clear g0 g1 g2 e1'
    go_loopw [5, 6, 19] (fun _ _ v19 wr => ∃ k : Nat, k ≤ i ∧ v19 = .int .i64 k ∧ anyTo (p4I l i) k = false ∧ Below w.heap.size w wr) (fun _ _ v19 _ => i - (intOf v19).toNat)
    case atStart => exact ⟨0, Nat.zero_le _, rfl, rfl, Below.refl _ _⟩
    case round =>
      obtain ⟨k, hk, rfl, hall, hbw⟩ := hrel
      have HA := Lib.hid hall; clear hall
      have HB := Lib.hid hbw; clear hbw
      by_cases hlt : k < i
      · have hkl : k < l.length := by omega
        obtain ⟨wo, hwo⟩ : ∃ wo : World, wo = wr := ⟨_, rfl⟩
        subst hwo
        obtain ⟨wb, hwb⟩ : ∃ wb, wb = wo.alloc (.cells #[.int .i64 l[k].tx, .int .i64 l[k].kind, .int .i64 l[k].item] 43) := ⟨_, rfl⟩
        have hal : Below wo.heap.size wo wb := by rw [hwb]; (repeat' (first | (with_reducible exact Below.refl _ _) | (with_reducible assumption) | (with_reducible refine Below.al ?_ _) | (with_reducible refine Below.drew ?_) | (with_reducible refine Below.drN ?_ _) | (with_reducible refine Below.via (by with_reducible assumption) ?_) | (with_reducible refine Below.setc ?_ ?_ _) | (with_reducible exact Nat.le_refl _) | (simp; done) | (simp; omega)))
        have hbx : Bx3 wb wo.heap.size 43 l[k].tx l[k].kind l[k].item := by rw [hwb]; exact Bx3.made wo _ _ _ _
        have HBX := Lib.hid hbx
        have HBb := Lib.hid (Below.trans HB.out (hal.mono HB.out.size))
        obtain ⟨b, off, he, hb, h0, h1, h2⟩ := (HRA.out.on HB.out).at_ hkl
        injection he with he; injection he with he4 he5
        subst he4 he5
        clear hbx hal
        go_wp2_with fail
        rw [← hwb]
        clear hwb h0 h1 h2
        have hwbs : wo.heap.size < wb.heap.size := (HBX.out.at_).1
        generalize hnn : i - (k + 1) = n
        go_loopw [8, 30] (fun _ v30 wr => ∃ m : Nat, m ≤ n ∧ v30 = .int .i64 m ∧ anyTo (fun m => q4I l i k (k + 1 + m)) m = false ∧ Below wb.heap.size wb wr) (fun _ v30 _ => n - (intOf v30).toNat)
        case atStart => exact ⟨0, Nat.zero_le _, rfl, rfl, Below.refl _ _⟩
        case round =>
          obtain ⟨m, hm, rfl, hall, hbw⟩ := hrel
          have HA2 := Lib.hid hall; clear hall
          have HI := Lib.hid hbw; clear hbw
          by_cases hlm : m < n
          · obtain ⟨j, hj⟩ : ∃ j, j = k + 1 + m := ⟨_, rfl⟩
            have hji : j < i := by omega
            have hjl : j < l.length := by omega
            have hq : q4I l i k (k + 1 + m) = ((l[k].tx == l[i].tx) && (conflB l[k] l[j] && (endL (l.take i) l[j].tx == 2))) := by rw [← hj]; unfold q4I; rw [atO_eq hi, atO_eq hkl, atO_eq hjl]
            have HRi := Lib.hid ((HRA.out.on HBb.out).on HI.out)
            obtain ⟨wc, hwc⟩ : ∃ wc, wc = wr.alloc (.cells #[.int .i64 l[j].tx, .int .i64 l[j].kind, .int .i64 l[j].item] 43) := ⟨_, rfl⟩
            have hal : Below wr.heap.size wr wc := by rw [hwc]; (repeat' (first | (with_reducible exact Below.refl _ _) | (with_reducible assumption) | (with_reducible refine Below.al ?_ _) | (with_reducible refine Below.drew ?_) | (with_reducible refine Below.drN ?_ _) | (with_reducible refine Below.via (by with_reducible assumption) ?_) | (with_reducible refine Below.setc ?_ ?_ _) | (with_reducible exact Nat.le_refl _) | (simp; done) | (simp; omega)))
            have hbx : Bx3 wc wr.heap.size 43 l[j].tx l[j].kind l[j].item := by rw [hwc]; exact Bx3.made wr _ _ _ _
            obtain ⟨x0, x1, x2, x3, x4, x5, x6⟩ := hbx.at_
            have hbk := Below.trans HI.out (hal.mono HI.out.size)
            obtain ⟨y0, y1, y2, y3, y4, y5, y6⟩ := (HBX.out.be hbk).at_
            have HIc := Lib.hid hbk
            have HRc := Lib.hid ((HRA.out.on HBb.out).on hbk)
            obtain ⟨b, off, he, hb, h0, h1, h2⟩ := HRi.out.at_ hjl
            injection he with he; injection he with he4 he5
            subst he4 he5
            obtain ⟨b, off, he, hb', g0, g1, g2⟩ := HRc.out.at_ hi
            injection he with he; injection he with he4 he5
            subst he4 he5
            have ej : off0 + j * 3 = off0 + (k + 1) * 3 + m * 3 := by omega
            rw [ej] at h0 h1 h2
            have HJ := Lib.hid hj
            have HQ := Lib.hid hq
            clear hbx hal hbk ej hq
            cases e2 : (l[k].tx == l[i].tx)
            · have HN := Lib.hid (anyTo_on (p := fun m => q4I l i k (k + 1 + m)) HA2.out (show q4I l i k (k + 1 + m) = false by rw [HQ.out, e2]; rfl))
              clear hj
              go_wp2_with fail
              rw [← hwc]
              clear hwc
              ((first | (with_reducible refine wp_region_from (by with_reducible assumption) follows (by kernel_rfl) ?_) | (refine wp_region_aft follows (by kernel_rfl) ?_)); (repeat (go_big_quiet_step (fail))); refine wpQuiet_nil ?_; intro _ hw'; obtain ⟨⟨w1, hb⟩, rfl⟩ := hw'; (try dsimp only); first | (replace hb := Below.via hb (by with_reducible assumption); (try clear hbc hbf hbz); obtain ⟨hbc, hbf, hbz⟩ := bcell hb) | (obtain ⟨hbc, hbf, hbz⟩ := bcell hb))
              go_wp2
              exact ⟨⟨m + 1, by omega, by go_num, HN.out, Below.trans HIc.out (hb.mono HIc.out.size)⟩, by simp [intOf]; omega⟩
            · cases e3 : conflB l[k] l[j]
              · have HN := Lib.hid (anyTo_on (p := fun m => q4I l i k (k + 1 + m)) HA2.out (show q4I l i k (k + 1 + m) = false by rw [HQ.out, e2, e3]; rfl))
                have E3 := Lib.hid (show conflB ⟨l[k].tx, l[k].kind, l[k].item⟩ ⟨l[j].tx, l[j].kind, l[j].item⟩ = false from e3)
                clear e3 hj
                go_wp2_with fail
                rw [← hwc]
                clear hwc
                ((first | (with_reducible refine wp_region_from (by with_reducible assumption) follows (by kernel_rfl) ?_) | (refine wp_region_aft follows (by kernel_rfl) ?_)); (repeat (go_big_quiet_step (first | (go_at_call 72; exact aftb (impl_conflicts_any _ _ _ _ _ _ _) (E3.out)) | (go_at_call 49; exact aft (impl_endOf_take _ _ l i _ _ HM.out (HRc.out.on (After.below _)) (Nat.le_of_lt hi)))))); refine wpQuiet_nil ?_; intro _ hw'; obtain ⟨⟨w1, hb⟩, rfl⟩ := hw'; (try dsimp only); first | (replace hb := Below.via hb (by with_reducible assumption); (try clear hbc hbf hbz); obtain ⟨hbc, hbf, hbz⟩ := bcell hb) | (obtain ⟨hbc, hbf, hbz⟩ := bcell hb))
                go_wp2
                exact ⟨⟨m + 1, by omega, by go_num, HN.out, Below.trans HIc.out (hb.mono HIc.out.size)⟩, by simp [intOf]; omega⟩
              · have E3 := Lib.hid (show conflB ⟨l[k].tx, l[k].kind, l[k].item⟩ ⟨l[j].tx, l[j].kind, l[j].item⟩ = true from e3)
                cases e4 : (endL (l.take i) l[j].tx == 2)
                · have HN := Lib.hid (anyTo_on (p := fun m => q4I l i k (k + 1 + m)) HA2.out (show q4I l i k (k + 1 + m) = false by rw [HQ.out, e2, e3, e4]; rfl))
                  clear e3 hj
                  go_wp2_with fail
                  rw [← hwc]
                  clear hwc
                  ((first | (with_reducible refine wp_region_from (by with_reducible assumption) follows (by kernel_rfl) ?_) | (refine wp_region_aft follows (by kernel_rfl) ?_)); (repeat (go_big_quiet_step (first | (go_at_call 72; exact aftb (impl_conflicts_any _ _ _ _ _ _ _) (E3.out)) | (go_at_call 49; exact aft (impl_endOf_take _ _ l i _ _ HM.out (HRc.out.on (After.below _)) (Nat.le_of_lt hi)))))); refine wpQuiet_nil ?_; intro _ hw'; obtain ⟨⟨w1, hb⟩, rfl⟩ := hw'; (try dsimp only); first | (replace hb := Below.via hb (by with_reducible assumption); (try clear hbc hbf hbz); obtain ⟨hbc, hbf, hbz⟩ := bcell hb) | (obtain ⟨hbc, hbf, hbz⟩ := bcell hb))
                  go_wp2
                  exact ⟨⟨m + 1, by omega, by go_num, HN.out, Below.trans HIc.out (hb.mono HIc.out.size)⟩, by simp [intOf]; omega⟩
                · have HY := Lib.hid (show brkI 4 l i = true by
                    rw [HD.out]
                    refine anyTo_hit hlt ?_
                    unfold p4I
                    exact anyTo_hit (show m < i - (k + 1) by omega) (by rw [HQ.out, e2, e3, e4]; rfl))
                  clear e3 hj
                  go_wp2_with fail
                  rw [← hwc]
                  clear hwc
                  ((first | (with_reducible refine wp_region_from (by with_reducible assumption) follows (by kernel_rfl) ?_) | (refine wp_region_aft follows (by kernel_rfl) ?_)); (repeat (go_big_quiet_step (first | (go_at_call 72; exact aftb (impl_conflicts_any _ _ _ _ _ _ _) (E3.out)) | (go_at_call 49; exact aft (impl_endOf_take _ _ l i _ _ HM.out (HRc.out.on (After.below _)) (Nat.le_of_lt hi)))))); refine wpQuiet_nil ?_; intro _ hw'; obtain ⟨⟨w1, hb⟩, rfl⟩ := hw'; (try dsimp only); first | (replace hb := Below.via hb (by with_reducible assumption); (try clear hbc hbf hbz); obtain ⟨hbc, hbf, hbz⟩ := bcell hb) | (obtain ⟨hbc, hbf, hbz⟩ := bcell hb))
                  go_wp2
                  go_ret
                  exact ⟨ret_bool HY.out.symm, Below.trans HBb.out ((Below.trans HIc.out (hb.mono HIc.out.size)).mono HBb.out.size)⟩
          · have hm' : m = n := by omega
            have HK := Lib.hid hm'
            have HNN := Lib.hid (show anyTo (p4I l i) (k + 1) = false from anyTo_on HA.out (by unfold p4I; rw [hnn, ← HK.out]; exact HA2.out))
            clear hm'
            go_wp2
            exact ⟨⟨k + 1, by omega, by go_num, HNN.out, Below.trans HBb.out (HI.out.mono HBb.out.size)⟩, by simp [intOf]; omega⟩
      · have hk' : k = i := by omega
        have HK := Lib.hid hk'; clear hk'
        go_wp2
        go_ret
        exact ⟨ret_bool (by have h := HA.out; rw [HK.out] at h; rw [HD.out]; exact h.symm), HB.out⟩
end Go.Proofs.Ytafjlklcffbbfaa
