/- Whose version a read reads on a snapshot: contracts of versionAt and versionOf. -/
import Derived.Test.YtafjlklcffbbfaaVerJ
import Derived.Test.YtafjlklcffbbfaaPl
namespace Go.Proofs.Ytafjlklcffbbfaa
set_option linter.unusedSimpArgs false
set_option linter.unusedVariables false
open Go.RowKit

def verS (l : List O3) (L : List Int) (i : Nat) : Int := if tchB l i (txAt l i) 1 (itemAt l i) = true then txAt l i else lastTo (seenB l i) L L.length
theorem verS_yes {l : List O3} {L : List Int} {i : Nat} (hi : i < l.length) (h : tchB l i l[i].tx 1 l[i].item = true) : verS l L i = l[i].tx := by
  unfold verS; rw [txAt_eq hi, itemAt_eq hi, h, if_pos rfl]
theorem verS_no {l : List O3} {L : List Int} {i : Nat} (hi : i < l.length) (h : tchB l i l[i].tx 1 l[i].item = false) : verS l L i = lastTo (seenB l i) L L.length := by
  unfold verS; rw [txAt_eq hi, itemAt_eq hi, h, if_neg (by simp)]
theorem seen_eq {l : List O3} {i : Nat} (hi : i < l.length) (u : Int) : seenB l i u = (decide (comAt l u < firstOf l l[i].tx) && tchB l l.length u 1 l[i].item) := by
  unfold seenB; rw [txAt_eq hi, itemAt_eq hi]
set_option maxHeartbeats 1000000 in
theorem spec_versionAt_any (A A2 : Option Addr) (c c2 : Nat) (l : List O3) (L : List Int) (i : Nat) (w : World) (hi : i < l.length) (hl : l.length ≤ 1000) (hL : L.length ≤ 1000) (hR : RdO w w.heap.size A l) (hR2 : RdI w w.heap.size A2 L) :
    Calls Try.prog 33 #[.slice A l.length c, .slice A2 L.length c2, .int .i64 i] w fun e w' => e = .returned (.int .i64 (verS l L i)) ∧ Below w.heap.size w w' := by
  have HM := Lib.hid (show l.length ≤ maxLen by unfold maxLen; omega)
  obtain ⟨b, off, rfl, hb, h0, h1, h2⟩ := hR.at_ hi
  cases e1 : tchB l i l[i].tx 1 l[i].item
  · have HV := Lib.hid (verS_no (L := L) hi e1)
    have E1 := Lib.hid e1; clear e1
    go_enter Try.func33, Try.ntmps33
    go_wp2_with fail
    ((first | (with_reducible refine wp_region_from (by with_reducible assumption) follows (by kernel_rfl) ?_) | (refine wp_region_aft follows (by kernel_rfl) ?_)); (repeat (go_big_quiet_step (first | (go_at_call 55; exact aftb_same (spec_touches_any _ _ l i _ _ _ _ (by omega) HM.out (hR.on (After.below _))) (E1.out))))); refine wpQuiet_nil ?_; intro _ hw'; obtain ⟨⟨w1, hb⟩, rfl⟩ := hw'; (try dsimp only); first | (replace hb := Below.via hb (by with_reducible assumption); (try clear hbc hbf hbz); obtain ⟨hbc, hbf, hbz⟩ := bcell hb) | (obtain ⟨hbc, hbf, hbz⟩ := bcell hb))
    rename_i w1
    go_wp2_with fail
    go_loopw [7, 8] (fun v7 v8 wr => ∃ k : Nat, k ≤ L.length ∧ v8 = .int .i64 k ∧ v7 = .int .i64 (lastTo (seenB l i) L k) ∧ Below w.heap.size w wr) (fun _ v8 _ => L.length - (intOf v8).toNat)
    case atStart => exact ⟨0, Nat.zero_le _, rfl, rfl, hb⟩
    case round =>
      obtain ⟨k, hk, rfl, rfl, hbw⟩ := hrel
      have HB := Lib.hid hbw; clear hbw
      by_cases hlt : k < L.length
      · obtain ⟨b2, off2, rfl, hb2, r0⟩ := (hR2.on HB.out).at_ hlt
        obtain ⟨b3, off3, he2, hb3, q0, q1, q2⟩ := (hR.on HB.out).at_ hi
        injection he2 with he2; injection he2 with he3 he4
        subst he3 he4
        have RW := Lib.hid (hR.on HB.out)
        have HS := Lib.hid (seen_eq hi L[k])
        by_cases hc1 : comAt l L[k] < firstOf l l[i].tx
        · have hlt1 : (comAt l L[k] : Int) < (firstOf l l[i].tx : Int) := by omega
          cases e2 : tchB l l.length L[k] 1 l[i].item
          · have HN := Lib.hid (last_no (p := seenB l i) hlt (by rw [HS.out, e2]; simp))
            have E2 := Lib.hid e2; clear e2
            generalize L[k] = u at *
            go_wp2_with fail
            ((first | (with_reducible refine wp_region_from (by with_reducible assumption) follows (by kernel_rfl) ?_) | (refine wp_region_aft follows (by kernel_rfl) ?_)); (repeat (go_big_quiet_step (first | (go_at_call 45; exact aft_same (spec_commitAt_any _ _ _ _ _ HM.out (RW.out.on (After.below _)))) | (go_at_call 46; exact aft_same (spec_stampOf_any _ _ _ _ _ HM.out (RW.out.on (After.below _)))) | (go_at_call 55; exact aftb_same (spec_touches_any _ _ l l.length _ _ _ _ (Nat.le_refl _) HM.out (RW.out.on (After.below _))) (E2.out))))); refine wpQuiet_nil ?_; intro _ hw'; obtain ⟨⟨w1, hb⟩, rfl⟩ := hw'; (try dsimp only); first | (replace hb := Below.via hb (by with_reducible assumption); (try clear hbc hbf hbz); obtain ⟨hbc, hbf, hbz⟩ := bcell hb) | (obtain ⟨hbc, hbf, hbz⟩ := bcell hb))
            go_wp2
            exact ⟨⟨k + 1, by omega, by go_num, by rw [HN.out], by have hbw := HB.out; (repeat' (first | (with_reducible exact Below.refl _ _) | (with_reducible assumption) | (with_reducible refine Below.al ?_ _) | (with_reducible refine Below.drew ?_) | (with_reducible refine Below.drN ?_ _) | (with_reducible refine Below.via (by with_reducible assumption) ?_) | (with_reducible refine Below.setc ?_ ?_ _) | (with_reducible exact Nat.le_refl _) | (simp; done) | (simp; omega)))⟩, by simp [intOf]; omega⟩
          · have HN := Lib.hid (last_yes (p := seenB l i) hlt (by rw [HS.out, e2]; simp [hc1]))
            have E2 := Lib.hid e2; clear e2
            generalize L[k] = u at *
            go_wp2_with fail
            ((first | (with_reducible refine wp_region_from (by with_reducible assumption) follows (by kernel_rfl) ?_) | (refine wp_region_aft follows (by kernel_rfl) ?_)); (repeat (go_big_quiet_step (first | (go_at_call 45; exact aft_same (spec_commitAt_any _ _ _ _ _ HM.out (RW.out.on (After.below _)))) | (go_at_call 46; exact aft_same (spec_stampOf_any _ _ _ _ _ HM.out (RW.out.on (After.below _)))) | (go_at_call 55; exact aftb_same (spec_touches_any _ _ l l.length _ _ _ _ (Nat.le_refl _) HM.out (RW.out.on (After.below _))) (E2.out))))); refine wpQuiet_nil ?_; intro _ hw'; obtain ⟨⟨w1, hb⟩, rfl⟩ := hw'; (try dsimp only); first | (replace hb := Below.via hb (by with_reducible assumption); (try clear hbc hbf hbz); obtain ⟨hbc, hbf, hbz⟩ := bcell hb) | (obtain ⟨hbc, hbf, hbz⟩ := bcell hb))
            go_wp2
            exact ⟨⟨k + 1, by omega, by go_num, by rw [HN.out], by have hbw := HB.out; (repeat' (first | (with_reducible exact Below.refl _ _) | (with_reducible assumption) | (with_reducible refine Below.al ?_ _) | (with_reducible refine Below.drew ?_) | (with_reducible refine Below.drN ?_ _) | (with_reducible refine Below.via (by with_reducible assumption) ?_) | (with_reducible refine Below.setc ?_ ?_ _) | (with_reducible exact Nat.le_refl _) | (simp; done) | (simp; omega)))⟩, by simp [intOf]; omega⟩
        · have hlt1 : ¬ (comAt l L[k] : Int) < (firstOf l l[i].tx : Int) := by omega
          have HN := Lib.hid (last_no (p := seenB l i) hlt (by rw [HS.out]; simp [hc1]))
          generalize L[k] = u at *
          go_wp2_with fail
          ((first | (with_reducible refine wp_region_from (by with_reducible assumption) follows (by kernel_rfl) ?_) | (refine wp_region_aft follows (by kernel_rfl) ?_)); (repeat (go_big_quiet_step (first | (go_at_call 45; exact aft_same (spec_commitAt_any _ _ _ _ _ HM.out (RW.out.on (After.below _)))) | (go_at_call 46; exact aft_same (spec_stampOf_any _ _ _ _ _ HM.out (RW.out.on (After.below _))))))); refine wpQuiet_nil ?_; intro _ hw'; obtain ⟨⟨w1, hb⟩, rfl⟩ := hw'; (try dsimp only); first | (replace hb := Below.via hb (by with_reducible assumption); (try clear hbc hbf hbz); obtain ⟨hbc, hbf, hbz⟩ := bcell hb) | (obtain ⟨hbc, hbf, hbz⟩ := bcell hb))
          go_wp2
          exact ⟨⟨k + 1, by omega, by go_num, by rw [HN.out], by have hbw := HB.out; (repeat' (first | (with_reducible exact Below.refl _ _) | (with_reducible assumption) | (with_reducible refine Below.al ?_ _) | (with_reducible refine Below.drew ?_) | (with_reducible refine Below.drN ?_ _) | (with_reducible refine Below.via (by with_reducible assumption) ?_) | (with_reducible refine Below.setc ?_ ?_ _) | (with_reducible exact Nat.le_refl _) | (simp; done) | (simp; omega)))⟩, by simp [intOf]; omega⟩
      · have hk' : k = L.length := by omega
        have HK := Lib.hid hk'; clear hk'
        go_wp2
        go_ret
        exact ⟨ret_int (by rw [HV.out, HK.out]), HB.out⟩
  · have HV := Lib.hid (verS_yes (L := L) hi e1)
    have E1 := Lib.hid e1; clear e1
    go_enter Try.func33, Try.ntmps33
    go_wp2_with fail
    ((first | (with_reducible refine wp_region_from (by with_reducible assumption) follows (by kernel_rfl) ?_) | (refine wp_region_aft follows (by kernel_rfl) ?_)); (repeat (go_big_quiet_step (first | (go_at_call 55; exact aftb_same (spec_touches_any _ _ l i _ _ _ _ (by omega) HM.out (hR.on (After.below _))) (E1.out))))); refine wpQuiet_nil ?_; intro _ hw'; obtain ⟨⟨w1, hb⟩, rfl⟩ := hw'; (try dsimp only); first | (replace hb := Below.via hb (by with_reducible assumption); (try clear hbc hbf hbz); obtain ⟨hbc, hbf, hbz⟩ := bcell hb) | (obtain ⟨hbc, hbf, hbz⟩ := bcell hb))
    go_wp2
    go_ret
    exact ⟨ret_int HV.out.symm, by (repeat' (first | (with_reducible exact Below.refl _ _) | (with_reducible assumption) | (with_reducible refine Below.al ?_ _) | (with_reducible refine Below.drew ?_) | (with_reducible refine Below.drN ?_ _) | (with_reducible refine Below.via (by with_reducible assumption) ?_) | (with_reducible refine Below.setc ?_ ?_ _) | (with_reducible exact Nat.le_refl _) | (simp; done) | (simp; omega)))⟩
theorem impl_writesOf_take (A : Option Addr) (c : Nat) (l : List O3) (k : Nat) (t : Int) (w : World) (hv : ValidP l) (hk : k ≤ l.length) (hR : RdO w w.heap.size A l) :
    Calls Try.prog 53 #[.slice A k c, .int .i64 t] w fun e w' => e = .returned (.int .i64 (maskAt l k t)) ∧ Below w.heap.size w w' := by
  have h := impl_writesOf_any A c (l.take k) t w (valid_take hv k) (hR.take k)
  have e : maskAt (l.take k) (l.take k).length t = maskAt l k t := by
    unfold maskAt tchB
    rw [List.take_length]
  rw [e, take_len hk] at h
  exact h
theorem bit_of0 (l : List O3) (k : Nat) (t : Int) (b : Bool) (h : tchB l k t 1 0 = b) : (bits .and .i64 (maskAt l k t) 1 == 1) = b := by unfold maskAt; rw [bit_mask0, h]
theorem bit_of1 (l : List O3) (k : Nat) (t : Int) (b : Bool) (h : tchB l k t 1 1 = b) : (bits .and .i64 (maskAt l k t / 2) 1 == 1) = b := by unfold maskAt; rw [bit_mask1, h]
theorem bit_of2 (l : List O3) (k : Nat) (t : Int) (b : Bool) (h : tchB l k t 1 2 = b) : (bits .and .i64 (maskAt l k t / 4) 1 == 1) = b := by unfold maskAt; rw [bit_mask2, h]
set_option maxHeartbeats 2000000 in
theorem impl_versionOf_at0 (A A2 : Option Addr) (c c2 : Nat) (l : List O3) (L : List Int) (i : Nat) (w : World) (hi : i < l.length) (hx : l[i].item = 0) (hv : ValidP l) (hc : l.length ≤ c) (hcom : ∀ u ∈ L, ∃ j, ∃ hj : j < l.length, l[j].tx = u ∧ l[j].kind = 2) (hL : L.length ≤ 1000) (hR : RdO w w.heap.size A l) (hR2 : RdI w w.heap.size A2 L) :
    Calls Try.prog 34 #[.slice A l.length c, .slice A2 L.length c2, .int .i64 i] w fun e w' => e = .returned (.int .i64 (verS l L i)) ∧ Below w.heap.size w w' := by
  have hl := hv.1
  have HV := Lib.hid hv; clear hv
  have HC := Lib.hid hcom; clear hcom
  have HF := Lib.hid (first_idx hi)
  have hic : i ≤ c := by omega
  obtain ⟨b, off, rfl, hb, h0, h1, h2⟩ := hR.at_ hi
  rw [hx] at h2
  have HM := Lib.hid (show l.length ≤ maxLen by unfold maxLen; omega)
  cases e1 : tchB l i l[i].tx 1 0
  · have HX := Lib.hid (verS_no (L := L) hi (by rw [hx]; exact e1))
    have hbit := bit_of0 _ _ _ _ e1
    have HS := Lib.hid (fun u => (seen_eq hi u).trans (by rw [hx]))
    clear e1 hx
    obtain ⟨wb, hwb⟩ : ∃ wb, wb = w.alloc (.cells #[.int .i64 l[i].tx, .int .i64 l[i].kind, .int .i64 0] 43) := ⟨_, rfl⟩
    have hal : Below w.heap.size w wb := by rw [hwb]; (repeat' (first | (with_reducible exact Below.refl _ _) | (with_reducible assumption) | (with_reducible refine Below.al ?_ _) | (with_reducible refine Below.drew ?_) | (with_reducible refine Below.drN ?_ _) | (with_reducible refine Below.via (by with_reducible assumption) ?_) | (with_reducible refine Below.setc ?_ ?_ _) | (with_reducible exact Nat.le_refl _) | (simp; done) | (simp; omega)))
    have hbx : Bx3 wb w.heap.size 43 l[i].tx l[i].kind 0 := by rw [hwb]; exact Bx3.made w _ _ _ _
    have HBX := Lib.hid hbx
    obtain ⟨x0, x1, x2, x3, x4, x5, x6⟩ := hbx.at_
    have HRb := Lib.hid (hR.on hal)
    have HRc := Lib.hid (hR2.on hal)
    have hbw : b < wb.heap.size := by have := hal.size; omega
    have HAL := Lib.hid hal
    clear hbx hal
    go_enter Try.func34, Try.ntmps34
    go_wp2_with fail
    rw [← hwb]
    clear hwb
    ((first | (with_reducible refine wp_region_from (by with_reducible assumption) follows (by kernel_rfl) ?_) | (refine wp_region_aft follows (by kernel_rfl) ?_)); (repeat (go_big_quiet_step (first | (go_at_call 53; exact aft (impl_writesOf_take _ _ l i _ _ HV.out (by omega) (HRb.out.on (After.below _))))))); refine wpQuiet_nil ?_; intro _ hw'; obtain ⟨⟨w1, hb⟩, rfl⟩ := hw'; (try dsimp only); first | (replace hb := Below.via hb (by with_reducible assumption); (try clear hbc hbf hbz); obtain ⟨hbc, hbf, hbz⟩ := bcell hb) | (obtain ⟨hbc, hbf, hbz⟩ := bcell hb))
    rename_i w1
    go_wp2_with fail
    clear hbit x0 x1 x2 x3 x4 x5 x6
    go_loopw [8, 10, 30] (fun v8 v10 v30 wr => ∃ k : Nat, k ≤ L.length ∧ v30 = .int .i64 k ∧ v8 = .int .i64 (lastTo (seenB l i) L k) ∧ Below wb.heap.size wb wr) (fun _ _ v30 _ => L.length - (intOf v30).toNat)
    case atStart => exact ⟨0, Nat.zero_le _, rfl, rfl, hb⟩
    case round =>
      obtain ⟨k, hk, rfl, rfl, hbw⟩ := hrel
      have HB := Lib.hid hbw; clear hbw
      by_cases hlt : k < L.length
      · obtain ⟨b2, off2, rfl, hb2, r0⟩ := (HRc.out.on HB.out).at_ hlt
        have RW := Lib.hid (HRb.out.on HB.out)
        obtain ⟨x0, x1, x2, x3, x4, x5, x6⟩ := (HBX.out.be HB.out).at_
        have HSL := Lib.hid (HS.out L[k])
        have HCI := Lib.hid (com_idx HV.out (HC.out L[k] (List.getElem_mem hlt)))
        by_cases hc1 : comAt l L[k] < firstOf l l[i].tx
        · have hlt1 : (comAt l L[k] : Int) < (firstOf l l[i].tx : Int) := by omega
          cases e2 : tchB l l.length L[k] 1 0
          · have HN := Lib.hid (last_no (p := seenB l i) hlt (by rw [HSL.out, e2]; simp))
            have hbit2 := bit_of0 _ _ _ _ e2
            clear e2
            generalize L[k] = u at *
            go_wp2_with fail
            ((first | (with_reducible refine wp_region_from (by with_reducible assumption) follows (by kernel_rfl) ?_) | (refine wp_region_aft follows (by kernel_rfl) ?_)); (repeat (go_big_quiet_step (first | (go_at_call 51; exact aft (impl_commitOf_any _ _ _ _ _ _ HCI.out HM.out (RW.out.on (After.below _)))) | (go_at_call 52; exact aft (impl_firstOf_any _ _ _ _ _ _ HF.out (by omega) (RW.out.on (After.below _)))) | (go_at_call 53; exact aft (impl_writesOf_any _ _ l _ _ HV.out (RW.out.on (After.below _))))))); refine wpQuiet_nil ?_; intro _ hw'; obtain ⟨⟨w1, hb⟩, rfl⟩ := hw'; (try dsimp only); first | (replace hb := Below.via hb (by with_reducible assumption); (try clear hbc hbf hbz); obtain ⟨hbc, hbf, hbz⟩ := bcell hb) | (obtain ⟨hbc, hbf, hbz⟩ := bcell hb))
            go_wp2
            exact ⟨⟨k + 1, by omega, by go_num, by rw [HN.out], by have hbw := HB.out; (repeat' (first | (with_reducible exact Below.refl _ _) | (with_reducible assumption) | (with_reducible refine Below.al ?_ _) | (with_reducible refine Below.drew ?_) | (with_reducible refine Below.drN ?_ _) | (with_reducible refine Below.via (by with_reducible assumption) ?_) | (with_reducible refine Below.setc ?_ ?_ _) | (with_reducible exact Nat.le_refl _) | (simp; done) | (simp; omega)))⟩, by simp [intOf]; omega⟩
          · have HN := Lib.hid (last_yes (p := seenB l i) hlt (by rw [HSL.out, e2]; simp [hc1]))
            have hbit2 := bit_of0 _ _ _ _ e2
            clear e2
            generalize L[k] = u at *
            go_wp2_with fail
            ((first | (with_reducible refine wp_region_from (by with_reducible assumption) follows (by kernel_rfl) ?_) | (refine wp_region_aft follows (by kernel_rfl) ?_)); (repeat (go_big_quiet_step (first | (go_at_call 51; exact aft (impl_commitOf_any _ _ _ _ _ _ HCI.out HM.out (RW.out.on (After.below _)))) | (go_at_call 52; exact aft (impl_firstOf_any _ _ _ _ _ _ HF.out (by omega) (RW.out.on (After.below _)))) | (go_at_call 53; exact aft (impl_writesOf_any _ _ l _ _ HV.out (RW.out.on (After.below _))))))); refine wpQuiet_nil ?_; intro _ hw'; obtain ⟨⟨w1, hb⟩, rfl⟩ := hw'; (try dsimp only); first | (replace hb := Below.via hb (by with_reducible assumption); (try clear hbc hbf hbz); obtain ⟨hbc, hbf, hbz⟩ := bcell hb) | (obtain ⟨hbc, hbf, hbz⟩ := bcell hb))
            go_wp2
            exact ⟨⟨k + 1, by omega, by go_num, by rw [HN.out], by have hbw := HB.out; (repeat' (first | (with_reducible exact Below.refl _ _) | (with_reducible assumption) | (with_reducible refine Below.al ?_ _) | (with_reducible refine Below.drew ?_) | (with_reducible refine Below.drN ?_ _) | (with_reducible refine Below.via (by with_reducible assumption) ?_) | (with_reducible refine Below.setc ?_ ?_ _) | (with_reducible exact Nat.le_refl _) | (simp; done) | (simp; omega)))⟩, by simp [intOf]; omega⟩
        · have hlt1 : ¬ (comAt l L[k] : Int) < (firstOf l l[i].tx : Int) := by omega
          have HN := Lib.hid (last_no (p := seenB l i) hlt (by rw [HSL.out]; simp [hc1]))
          generalize L[k] = u at *
          go_wp2_with fail
          ((first | (with_reducible refine wp_region_from (by with_reducible assumption) follows (by kernel_rfl) ?_) | (refine wp_region_aft follows (by kernel_rfl) ?_)); (repeat (go_big_quiet_step (first | (go_at_call 51; exact aft (impl_commitOf_any _ _ _ _ _ _ HCI.out HM.out (RW.out.on (After.below _)))) | (go_at_call 52; exact aft (impl_firstOf_any _ _ _ _ _ _ HF.out (by omega) (RW.out.on (After.below _)))) | (go_at_call 53; exact aft (impl_writesOf_any _ _ l _ _ HV.out (RW.out.on (After.below _))))))); refine wpQuiet_nil ?_; intro _ hw'; obtain ⟨⟨w1, hb⟩, rfl⟩ := hw'; (try dsimp only); first | (replace hb := Below.via hb (by with_reducible assumption); (try clear hbc hbf hbz); obtain ⟨hbc, hbf, hbz⟩ := bcell hb) | (obtain ⟨hbc, hbf, hbz⟩ := bcell hb))
          go_wp2
          exact ⟨⟨k + 1, by omega, by go_num, by rw [HN.out], by have hbw := HB.out; (repeat' (first | (with_reducible exact Below.refl _ _) | (with_reducible assumption) | (with_reducible refine Below.al ?_ _) | (with_reducible refine Below.drew ?_) | (with_reducible refine Below.drN ?_ _) | (with_reducible refine Below.via (by with_reducible assumption) ?_) | (with_reducible refine Below.setc ?_ ?_ _) | (with_reducible exact Nat.le_refl _) | (simp; done) | (simp; omega)))⟩, by simp [intOf]; omega⟩
      · have hk' : k = L.length := by omega
        have HK := Lib.hid hk'; clear hk'
        go_wp2
        go_ret
        exact ⟨ret_int (by rw [HX.out, HK.out]), Below.trans HAL.out (HB.out.mono HAL.out.size)⟩
  · have HX := Lib.hid (verS_yes (L := L) hi (by rw [hx]; exact e1))
    have hbit := bit_of0 _ _ _ _ e1
    clear e1 hx
    obtain ⟨wb, hwb⟩ : ∃ wb, wb = w.alloc (.cells #[.int .i64 l[i].tx, .int .i64 l[i].kind, .int .i64 0] 43) := ⟨_, rfl⟩
    have hal : Below w.heap.size w wb := by rw [hwb]; (repeat' (first | (with_reducible exact Below.refl _ _) | (with_reducible assumption) | (with_reducible refine Below.al ?_ _) | (with_reducible refine Below.drew ?_) | (with_reducible refine Below.drN ?_ _) | (with_reducible refine Below.via (by with_reducible assumption) ?_) | (with_reducible refine Below.setc ?_ ?_ _) | (with_reducible exact Nat.le_refl _) | (simp; done) | (simp; omega)))
    have hbx : Bx3 wb w.heap.size 43 l[i].tx l[i].kind 0 := by rw [hwb]; exact Bx3.made w _ _ _ _
    have HBX := Lib.hid hbx
    obtain ⟨x0, x1, x2, x3, x4, x5, x6⟩ := hbx.at_
    have HRb := Lib.hid (hR.on hal)
    have HRc := Lib.hid (hR2.on hal)
    have hbw : b < wb.heap.size := by have := hal.size; omega
    have HAL := Lib.hid hal
    clear hbx hal
    go_enter Try.func34, Try.ntmps34
    go_wp2_with fail
    rw [← hwb]
    clear hwb
    ((first | (with_reducible refine wp_region_from (by with_reducible assumption) follows (by kernel_rfl) ?_) | (refine wp_region_aft follows (by kernel_rfl) ?_)); (repeat (go_big_quiet_step (first | (go_at_call 53; exact aft (impl_writesOf_take _ _ l i _ _ HV.out (by omega) (HRb.out.on (After.below _))))))); refine wpQuiet_nil ?_; intro _ hw'; obtain ⟨⟨w1, hb⟩, rfl⟩ := hw'; (try dsimp only); first | (replace hb := Below.via hb (by with_reducible assumption); (try clear hbc hbf hbz); obtain ⟨hbc, hbf, hbz⟩ := bcell hb) | (obtain ⟨hbc, hbf, hbz⟩ := bcell hb))
    go_wp2
    go_ret
    exact ⟨ret_int HX.out.symm, Below.trans HAL.out (hb.mono HAL.out.size)⟩
set_option maxHeartbeats 2000000 in
theorem impl_versionOf_at1 (A A2 : Option Addr) (c c2 : Nat) (l : List O3) (L : List Int) (i : Nat) (w : World) (hi : i < l.length) (hx : l[i].item = 1) (hv : ValidP l) (hc : l.length ≤ c) (hcom : ∀ u ∈ L, ∃ j, ∃ hj : j < l.length, l[j].tx = u ∧ l[j].kind = 2) (hL : L.length ≤ 1000) (hR : RdO w w.heap.size A l) (hR2 : RdI w w.heap.size A2 L) :
    Calls Try.prog 34 #[.slice A l.length c, .slice A2 L.length c2, .int .i64 i] w fun e w' => e = .returned (.int .i64 (verS l L i)) ∧ Below w.heap.size w w' := by
  have hl := hv.1
  have HV := Lib.hid hv; clear hv
  have HC := Lib.hid hcom; clear hcom
  have HF := Lib.hid (first_idx hi)
  have hic : i ≤ c := by omega
  obtain ⟨b, off, rfl, hb, h0, h1, h2⟩ := hR.at_ hi
  rw [hx] at h2
  have HM := Lib.hid (show l.length ≤ maxLen by unfold maxLen; omega)
  cases e1 : tchB l i l[i].tx 1 1
  · have HX := Lib.hid (verS_no (L := L) hi (by rw [hx]; exact e1))
    have hbit := bit_of1 _ _ _ _ e1
    have HS := Lib.hid (fun u => (seen_eq hi u).trans (by rw [hx]))
    clear e1 hx
    obtain ⟨wb, hwb⟩ : ∃ wb, wb = w.alloc (.cells #[.int .i64 l[i].tx, .int .i64 l[i].kind, .int .i64 1] 43) := ⟨_, rfl⟩
    have hal : Below w.heap.size w wb := by rw [hwb]; (repeat' (first | (with_reducible exact Below.refl _ _) | (with_reducible assumption) | (with_reducible refine Below.al ?_ _) | (with_reducible refine Below.drew ?_) | (with_reducible refine Below.drN ?_ _) | (with_reducible refine Below.via (by with_reducible assumption) ?_) | (with_reducible refine Below.setc ?_ ?_ _) | (with_reducible exact Nat.le_refl _) | (simp; done) | (simp; omega)))
    have hbx : Bx3 wb w.heap.size 43 l[i].tx l[i].kind 1 := by rw [hwb]; exact Bx3.made w _ _ _ _
    have HBX := Lib.hid hbx
    obtain ⟨x0, x1, x2, x3, x4, x5, x6⟩ := hbx.at_
    have HRb := Lib.hid (hR.on hal)
    have HRc := Lib.hid (hR2.on hal)
    have hbw : b < wb.heap.size := by have := hal.size; omega
    have HAL := Lib.hid hal
    clear hbx hal
    go_enter Try.func34, Try.ntmps34
    go_wp2_with fail
    rw [← hwb]
    clear hwb
    ((first | (with_reducible refine wp_region_from (by with_reducible assumption) follows (by kernel_rfl) ?_) | (refine wp_region_aft follows (by kernel_rfl) ?_)); (repeat (go_big_quiet_step (first | (go_at_call 53; exact aft (impl_writesOf_take _ _ l i _ _ HV.out (by omega) (HRb.out.on (After.below _))))))); refine wpQuiet_nil ?_; intro _ hw'; obtain ⟨⟨w1, hb⟩, rfl⟩ := hw'; (try dsimp only); first | (replace hb := Below.via hb (by with_reducible assumption); (try clear hbc hbf hbz); obtain ⟨hbc, hbf, hbz⟩ := bcell hb) | (obtain ⟨hbc, hbf, hbz⟩ := bcell hb))
    rename_i w1
    go_wp2_with fail
    clear hbit x0 x1 x2 x3 x4 x5 x6
    go_loopw [8, 10, 30] (fun v8 v10 v30 wr => ∃ k : Nat, k ≤ L.length ∧ v30 = .int .i64 k ∧ v8 = .int .i64 (lastTo (seenB l i) L k) ∧ Below wb.heap.size wb wr) (fun _ _ v30 _ => L.length - (intOf v30).toNat)
    case atStart => exact ⟨0, Nat.zero_le _, rfl, rfl, hb⟩
    case round =>
      obtain ⟨k, hk, rfl, rfl, hbw⟩ := hrel
      have HB := Lib.hid hbw; clear hbw
      by_cases hlt : k < L.length
      · obtain ⟨b2, off2, rfl, hb2, r0⟩ := (HRc.out.on HB.out).at_ hlt
        have RW := Lib.hid (HRb.out.on HB.out)
        obtain ⟨x0, x1, x2, x3, x4, x5, x6⟩ := (HBX.out.be HB.out).at_
        have HSL := Lib.hid (HS.out L[k])
        have HCI := Lib.hid (com_idx HV.out (HC.out L[k] (List.getElem_mem hlt)))
        by_cases hc1 : comAt l L[k] < firstOf l l[i].tx
        · have hlt1 : (comAt l L[k] : Int) < (firstOf l l[i].tx : Int) := by omega
          cases e2 : tchB l l.length L[k] 1 1
          · have HN := Lib.hid (last_no (p := seenB l i) hlt (by rw [HSL.out, e2]; simp))
            have hbit2 := bit_of1 _ _ _ _ e2
            clear e2
            generalize L[k] = u at *
            go_wp2_with fail
            ((first | (with_reducible refine wp_region_from (by with_reducible assumption) follows (by kernel_rfl) ?_) | (refine wp_region_aft follows (by kernel_rfl) ?_)); (repeat (go_big_quiet_step (first | (go_at_call 51; exact aft (impl_commitOf_any _ _ _ _ _ _ HCI.out HM.out (RW.out.on (After.below _)))) | (go_at_call 52; exact aft (impl_firstOf_any _ _ _ _ _ _ HF.out (by omega) (RW.out.on (After.below _)))) | (go_at_call 53; exact aft (impl_writesOf_any _ _ l _ _ HV.out (RW.out.on (After.below _))))))); refine wpQuiet_nil ?_; intro _ hw'; obtain ⟨⟨w1, hb⟩, rfl⟩ := hw'; (try dsimp only); first | (replace hb := Below.via hb (by with_reducible assumption); (try clear hbc hbf hbz); obtain ⟨hbc, hbf, hbz⟩ := bcell hb) | (obtain ⟨hbc, hbf, hbz⟩ := bcell hb))
            go_wp2
            exact ⟨⟨k + 1, by omega, by go_num, by rw [HN.out], by have hbw := HB.out; (repeat' (first | (with_reducible exact Below.refl _ _) | (with_reducible assumption) | (with_reducible refine Below.al ?_ _) | (with_reducible refine Below.drew ?_) | (with_reducible refine Below.drN ?_ _) | (with_reducible refine Below.via (by with_reducible assumption) ?_) | (with_reducible refine Below.setc ?_ ?_ _) | (with_reducible exact Nat.le_refl _) | (simp; done) | (simp; omega)))⟩, by simp [intOf]; omega⟩
          · have HN := Lib.hid (last_yes (p := seenB l i) hlt (by rw [HSL.out, e2]; simp [hc1]))
            have hbit2 := bit_of1 _ _ _ _ e2
            clear e2
            generalize L[k] = u at *
            go_wp2_with fail
            ((first | (with_reducible refine wp_region_from (by with_reducible assumption) follows (by kernel_rfl) ?_) | (refine wp_region_aft follows (by kernel_rfl) ?_)); (repeat (go_big_quiet_step (first | (go_at_call 51; exact aft (impl_commitOf_any _ _ _ _ _ _ HCI.out HM.out (RW.out.on (After.below _)))) | (go_at_call 52; exact aft (impl_firstOf_any _ _ _ _ _ _ HF.out (by omega) (RW.out.on (After.below _)))) | (go_at_call 53; exact aft (impl_writesOf_any _ _ l _ _ HV.out (RW.out.on (After.below _))))))); refine wpQuiet_nil ?_; intro _ hw'; obtain ⟨⟨w1, hb⟩, rfl⟩ := hw'; (try dsimp only); first | (replace hb := Below.via hb (by with_reducible assumption); (try clear hbc hbf hbz); obtain ⟨hbc, hbf, hbz⟩ := bcell hb) | (obtain ⟨hbc, hbf, hbz⟩ := bcell hb))
            go_wp2
            exact ⟨⟨k + 1, by omega, by go_num, by rw [HN.out], by have hbw := HB.out; (repeat' (first | (with_reducible exact Below.refl _ _) | (with_reducible assumption) | (with_reducible refine Below.al ?_ _) | (with_reducible refine Below.drew ?_) | (with_reducible refine Below.drN ?_ _) | (with_reducible refine Below.via (by with_reducible assumption) ?_) | (with_reducible refine Below.setc ?_ ?_ _) | (with_reducible exact Nat.le_refl _) | (simp; done) | (simp; omega)))⟩, by simp [intOf]; omega⟩
        · have hlt1 : ¬ (comAt l L[k] : Int) < (firstOf l l[i].tx : Int) := by omega
          have HN := Lib.hid (last_no (p := seenB l i) hlt (by rw [HSL.out]; simp [hc1]))
          generalize L[k] = u at *
          go_wp2_with fail
          ((first | (with_reducible refine wp_region_from (by with_reducible assumption) follows (by kernel_rfl) ?_) | (refine wp_region_aft follows (by kernel_rfl) ?_)); (repeat (go_big_quiet_step (first | (go_at_call 51; exact aft (impl_commitOf_any _ _ _ _ _ _ HCI.out HM.out (RW.out.on (After.below _)))) | (go_at_call 52; exact aft (impl_firstOf_any _ _ _ _ _ _ HF.out (by omega) (RW.out.on (After.below _)))) | (go_at_call 53; exact aft (impl_writesOf_any _ _ l _ _ HV.out (RW.out.on (After.below _))))))); refine wpQuiet_nil ?_; intro _ hw'; obtain ⟨⟨w1, hb⟩, rfl⟩ := hw'; (try dsimp only); first | (replace hb := Below.via hb (by with_reducible assumption); (try clear hbc hbf hbz); obtain ⟨hbc, hbf, hbz⟩ := bcell hb) | (obtain ⟨hbc, hbf, hbz⟩ := bcell hb))
          go_wp2
          exact ⟨⟨k + 1, by omega, by go_num, by rw [HN.out], by have hbw := HB.out; (repeat' (first | (with_reducible exact Below.refl _ _) | (with_reducible assumption) | (with_reducible refine Below.al ?_ _) | (with_reducible refine Below.drew ?_) | (with_reducible refine Below.drN ?_ _) | (with_reducible refine Below.via (by with_reducible assumption) ?_) | (with_reducible refine Below.setc ?_ ?_ _) | (with_reducible exact Nat.le_refl _) | (simp; done) | (simp; omega)))⟩, by simp [intOf]; omega⟩
      · have hk' : k = L.length := by omega
        have HK := Lib.hid hk'; clear hk'
        go_wp2
        go_ret
        exact ⟨ret_int (by rw [HX.out, HK.out]), Below.trans HAL.out (HB.out.mono HAL.out.size)⟩
  · have HX := Lib.hid (verS_yes (L := L) hi (by rw [hx]; exact e1))
    have hbit := bit_of1 _ _ _ _ e1
    clear e1 hx
    obtain ⟨wb, hwb⟩ : ∃ wb, wb = w.alloc (.cells #[.int .i64 l[i].tx, .int .i64 l[i].kind, .int .i64 1] 43) := ⟨_, rfl⟩
    have hal : Below w.heap.size w wb := by rw [hwb]; (repeat' (first | (with_reducible exact Below.refl _ _) | (with_reducible assumption) | (with_reducible refine Below.al ?_ _) | (with_reducible refine Below.drew ?_) | (with_reducible refine Below.drN ?_ _) | (with_reducible refine Below.via (by with_reducible assumption) ?_) | (with_reducible refine Below.setc ?_ ?_ _) | (with_reducible exact Nat.le_refl _) | (simp; done) | (simp; omega)))
    have hbx : Bx3 wb w.heap.size 43 l[i].tx l[i].kind 1 := by rw [hwb]; exact Bx3.made w _ _ _ _
    have HBX := Lib.hid hbx
    obtain ⟨x0, x1, x2, x3, x4, x5, x6⟩ := hbx.at_
    have HRb := Lib.hid (hR.on hal)
    have HRc := Lib.hid (hR2.on hal)
    have hbw : b < wb.heap.size := by have := hal.size; omega
    have HAL := Lib.hid hal
    clear hbx hal
    go_enter Try.func34, Try.ntmps34
    go_wp2_with fail
    rw [← hwb]
    clear hwb
    ((first | (with_reducible refine wp_region_from (by with_reducible assumption) follows (by kernel_rfl) ?_) | (refine wp_region_aft follows (by kernel_rfl) ?_)); (repeat (go_big_quiet_step (first | (go_at_call 53; exact aft (impl_writesOf_take _ _ l i _ _ HV.out (by omega) (HRb.out.on (After.below _))))))); refine wpQuiet_nil ?_; intro _ hw'; obtain ⟨⟨w1, hb⟩, rfl⟩ := hw'; (try dsimp only); first | (replace hb := Below.via hb (by with_reducible assumption); (try clear hbc hbf hbz); obtain ⟨hbc, hbf, hbz⟩ := bcell hb) | (obtain ⟨hbc, hbf, hbz⟩ := bcell hb))
    go_wp2
    go_ret
    exact ⟨ret_int HX.out.symm, Below.trans HAL.out (hb.mono HAL.out.size)⟩
set_option maxHeartbeats 2000000 in
theorem impl_versionOf_at2 (A A2 : Option Addr) (c c2 : Nat) (l : List O3) (L : List Int) (i : Nat) (w : World) (hi : i < l.length) (hx : l[i].item = 2) (hv : ValidP l) (hc : l.length ≤ c) (hcom : ∀ u ∈ L, ∃ j, ∃ hj : j < l.length, l[j].tx = u ∧ l[j].kind = 2) (hL : L.length ≤ 1000) (hR : RdO w w.heap.size A l) (hR2 : RdI w w.heap.size A2 L) :
    Calls Try.prog 34 #[.slice A l.length c, .slice A2 L.length c2, .int .i64 i] w fun e w' => e = .returned (.int .i64 (verS l L i)) ∧ Below w.heap.size w w' := by
  have hl := hv.1
  have HV := Lib.hid hv; clear hv
  have HC := Lib.hid hcom; clear hcom
  have HF := Lib.hid (first_idx hi)
  have hic : i ≤ c := by omega
  obtain ⟨b, off, rfl, hb, h0, h1, h2⟩ := hR.at_ hi
  rw [hx] at h2
  have HM := Lib.hid (show l.length ≤ maxLen by unfold maxLen; omega)
  cases e1 : tchB l i l[i].tx 1 2
  · have HX := Lib.hid (verS_no (L := L) hi (by rw [hx]; exact e1))
    have hbit := bit_of2 _ _ _ _ e1
    have HS := Lib.hid (fun u => (seen_eq hi u).trans (by rw [hx]))
    clear e1 hx
    obtain ⟨wb, hwb⟩ : ∃ wb, wb = w.alloc (.cells #[.int .i64 l[i].tx, .int .i64 l[i].kind, .int .i64 2] 43) := ⟨_, rfl⟩
    have hal : Below w.heap.size w wb := by rw [hwb]; (repeat' (first | (with_reducible exact Below.refl _ _) | (with_reducible assumption) | (with_reducible refine Below.al ?_ _) | (with_reducible refine Below.drew ?_) | (with_reducible refine Below.drN ?_ _) | (with_reducible refine Below.via (by with_reducible assumption) ?_) | (with_reducible refine Below.setc ?_ ?_ _) | (with_reducible exact Nat.le_refl _) | (simp; done) | (simp; omega)))
    have hbx : Bx3 wb w.heap.size 43 l[i].tx l[i].kind 2 := by rw [hwb]; exact Bx3.made w _ _ _ _
    have HBX := Lib.hid hbx
    obtain ⟨x0, x1, x2, x3, x4, x5, x6⟩ := hbx.at_
    have HRb := Lib.hid (hR.on hal)
    have HRc := Lib.hid (hR2.on hal)
    have hbw : b < wb.heap.size := by have := hal.size; omega
    have HAL := Lib.hid hal
    clear hbx hal
    go_enter Try.func34, Try.ntmps34
    go_wp2_with fail
    rw [← hwb]
    clear hwb
    ((first | (with_reducible refine wp_region_from (by with_reducible assumption) follows (by kernel_rfl) ?_) | (refine wp_region_aft follows (by kernel_rfl) ?_)); (repeat (go_big_quiet_step (first | (go_at_call 53; exact aft (impl_writesOf_take _ _ l i _ _ HV.out (by omega) (HRb.out.on (After.below _))))))); refine wpQuiet_nil ?_; intro _ hw'; obtain ⟨⟨w1, hb⟩, rfl⟩ := hw'; (try dsimp only); first | (replace hb := Below.via hb (by with_reducible assumption); (try clear hbc hbf hbz); obtain ⟨hbc, hbf, hbz⟩ := bcell hb) | (obtain ⟨hbc, hbf, hbz⟩ := bcell hb))
    rename_i w1
    go_wp2_with fail
    clear hbit x0 x1 x2 x3 x4 x5 x6
    go_loopw [8, 10, 30] (fun v8 v10 v30 wr => ∃ k : Nat, k ≤ L.length ∧ v30 = .int .i64 k ∧ v8 = .int .i64 (lastTo (seenB l i) L k) ∧ Below wb.heap.size wb wr) (fun _ _ v30 _ => L.length - (intOf v30).toNat)
    case atStart => exact ⟨0, Nat.zero_le _, rfl, rfl, hb⟩
    case round =>
      obtain ⟨k, hk, rfl, rfl, hbw⟩ := hrel
      have HB := Lib.hid hbw; clear hbw
      by_cases hlt : k < L.length
      · obtain ⟨b2, off2, rfl, hb2, r0⟩ := (HRc.out.on HB.out).at_ hlt
        have RW := Lib.hid (HRb.out.on HB.out)
        obtain ⟨x0, x1, x2, x3, x4, x5, x6⟩ := (HBX.out.be HB.out).at_
        have HSL := Lib.hid (HS.out L[k])
        have HCI := Lib.hid (com_idx HV.out (HC.out L[k] (List.getElem_mem hlt)))
        by_cases hc1 : comAt l L[k] < firstOf l l[i].tx
        · have hlt1 : (comAt l L[k] : Int) < (firstOf l l[i].tx : Int) := by omega
          cases e2 : tchB l l.length L[k] 1 2
          · have HN := Lib.hid (last_no (p := seenB l i) hlt (by rw [HSL.out, e2]; simp))
            have hbit2 := bit_of2 _ _ _ _ e2
            clear e2
            generalize L[k] = u at *
            go_wp2_with fail
            ((first | (with_reducible refine wp_region_from (by with_reducible assumption) follows (by kernel_rfl) ?_) | (refine wp_region_aft follows (by kernel_rfl) ?_)); (repeat (go_big_quiet_step (first | (go_at_call 51; exact aft (impl_commitOf_any _ _ _ _ _ _ HCI.out HM.out (RW.out.on (After.below _)))) | (go_at_call 52; exact aft (impl_firstOf_any _ _ _ _ _ _ HF.out (by omega) (RW.out.on (After.below _)))) | (go_at_call 53; exact aft (impl_writesOf_any _ _ l _ _ HV.out (RW.out.on (After.below _))))))); refine wpQuiet_nil ?_; intro _ hw'; obtain ⟨⟨w1, hb⟩, rfl⟩ := hw'; (try dsimp only); first | (replace hb := Below.via hb (by with_reducible assumption); (try clear hbc hbf hbz); obtain ⟨hbc, hbf, hbz⟩ := bcell hb) | (obtain ⟨hbc, hbf, hbz⟩ := bcell hb))
            go_wp2
            exact ⟨⟨k + 1, by omega, by go_num, by rw [HN.out], by have hbw := HB.out; (repeat' (first | (with_reducible exact Below.refl _ _) | (with_reducible assumption) | (with_reducible refine Below.al ?_ _) | (with_reducible refine Below.drew ?_) | (with_reducible refine Below.drN ?_ _) | (with_reducible refine Below.via (by with_reducible assumption) ?_) | (with_reducible refine Below.setc ?_ ?_ _) | (with_reducible exact Nat.le_refl _) | (simp; done) | (simp; omega)))⟩, by simp [intOf]; omega⟩
          · have HN := Lib.hid (last_yes (p := seenB l i) hlt (by rw [HSL.out, e2]; simp [hc1]))
            have hbit2 := bit_of2 _ _ _ _ e2
            clear e2
            generalize L[k] = u at *
            go_wp2_with fail
            ((first | (with_reducible refine wp_region_from (by with_reducible assumption) follows (by kernel_rfl) ?_) | (refine wp_region_aft follows (by kernel_rfl) ?_)); (repeat (go_big_quiet_step (first | (go_at_call 51; exact aft (impl_commitOf_any _ _ _ _ _ _ HCI.out HM.out (RW.out.on (After.below _)))) | (go_at_call 52; exact aft (impl_firstOf_any _ _ _ _ _ _ HF.out (by omega) (RW.out.on (After.below _)))) | (go_at_call 53; exact aft (impl_writesOf_any _ _ l _ _ HV.out (RW.out.on (After.below _))))))); refine wpQuiet_nil ?_; intro _ hw'; obtain ⟨⟨w1, hb⟩, rfl⟩ := hw'; (try dsimp only); first | (replace hb := Below.via hb (by with_reducible assumption); (try clear hbc hbf hbz); obtain ⟨hbc, hbf, hbz⟩ := bcell hb) | (obtain ⟨hbc, hbf, hbz⟩ := bcell hb))
            go_wp2
            exact ⟨⟨k + 1, by omega, by go_num, by rw [HN.out], by have hbw := HB.out; (repeat' (first | (with_reducible exact Below.refl _ _) | (with_reducible assumption) | (with_reducible refine Below.al ?_ _) | (with_reducible refine Below.drew ?_) | (with_reducible refine Below.drN ?_ _) | (with_reducible refine Below.via (by with_reducible assumption) ?_) | (with_reducible refine Below.setc ?_ ?_ _) | (with_reducible exact Nat.le_refl _) | (simp; done) | (simp; omega)))⟩, by simp [intOf]; omega⟩
        · have hlt1 : ¬ (comAt l L[k] : Int) < (firstOf l l[i].tx : Int) := by omega
          have HN := Lib.hid (last_no (p := seenB l i) hlt (by rw [HSL.out]; simp [hc1]))
          generalize L[k] = u at *
          go_wp2_with fail
          ((first | (with_reducible refine wp_region_from (by with_reducible assumption) follows (by kernel_rfl) ?_) | (refine wp_region_aft follows (by kernel_rfl) ?_)); (repeat (go_big_quiet_step (first | (go_at_call 51; exact aft (impl_commitOf_any _ _ _ _ _ _ HCI.out HM.out (RW.out.on (After.below _)))) | (go_at_call 52; exact aft (impl_firstOf_any _ _ _ _ _ _ HF.out (by omega) (RW.out.on (After.below _)))) | (go_at_call 53; exact aft (impl_writesOf_any _ _ l _ _ HV.out (RW.out.on (After.below _))))))); refine wpQuiet_nil ?_; intro _ hw'; obtain ⟨⟨w1, hb⟩, rfl⟩ := hw'; (try dsimp only); first | (replace hb := Below.via hb (by with_reducible assumption); (try clear hbc hbf hbz); obtain ⟨hbc, hbf, hbz⟩ := bcell hb) | (obtain ⟨hbc, hbf, hbz⟩ := bcell hb))
          go_wp2
          exact ⟨⟨k + 1, by omega, by go_num, by rw [HN.out], by have hbw := HB.out; (repeat' (first | (with_reducible exact Below.refl _ _) | (with_reducible assumption) | (with_reducible refine Below.al ?_ _) | (with_reducible refine Below.drew ?_) | (with_reducible refine Below.drN ?_ _) | (with_reducible refine Below.via (by with_reducible assumption) ?_) | (with_reducible refine Below.setc ?_ ?_ _) | (with_reducible exact Nat.le_refl _) | (simp; done) | (simp; omega)))⟩, by simp [intOf]; omega⟩
      · have hk' : k = L.length := by omega
        have HK := Lib.hid hk'; clear hk'
        go_wp2
        go_ret
        exact ⟨ret_int (by rw [HX.out, HK.out]), Below.trans HAL.out (HB.out.mono HAL.out.size)⟩
  · have HX := Lib.hid (verS_yes (L := L) hi (by rw [hx]; exact e1))
    have hbit := bit_of2 _ _ _ _ e1
    clear e1 hx
    obtain ⟨wb, hwb⟩ : ∃ wb, wb = w.alloc (.cells #[.int .i64 l[i].tx, .int .i64 l[i].kind, .int .i64 2] 43) := ⟨_, rfl⟩
    have hal : Below w.heap.size w wb := by rw [hwb]; (repeat' (first | (with_reducible exact Below.refl _ _) | (with_reducible assumption) | (with_reducible refine Below.al ?_ _) | (with_reducible refine Below.drew ?_) | (with_reducible refine Below.drN ?_ _) | (with_reducible refine Below.via (by with_reducible assumption) ?_) | (with_reducible refine Below.setc ?_ ?_ _) | (with_reducible exact Nat.le_refl _) | (simp; done) | (simp; omega)))
    have hbx : Bx3 wb w.heap.size 43 l[i].tx l[i].kind 2 := by rw [hwb]; exact Bx3.made w _ _ _ _
    have HBX := Lib.hid hbx
    obtain ⟨x0, x1, x2, x3, x4, x5, x6⟩ := hbx.at_
    have HRb := Lib.hid (hR.on hal)
    have HRc := Lib.hid (hR2.on hal)
    have hbw : b < wb.heap.size := by have := hal.size; omega
    have HAL := Lib.hid hal
    clear hbx hal
    go_enter Try.func34, Try.ntmps34
    go_wp2_with fail
    rw [← hwb]
    clear hwb
    ((first | (with_reducible refine wp_region_from (by with_reducible assumption) follows (by kernel_rfl) ?_) | (refine wp_region_aft follows (by kernel_rfl) ?_)); (repeat (go_big_quiet_step (first | (go_at_call 53; exact aft (impl_writesOf_take _ _ l i _ _ HV.out (by omega) (HRb.out.on (After.below _))))))); refine wpQuiet_nil ?_; intro _ hw'; obtain ⟨⟨w1, hb⟩, rfl⟩ := hw'; (try dsimp only); first | (replace hb := Below.via hb (by with_reducible assumption); (try clear hbc hbf hbz); obtain ⟨hbc, hbf, hbz⟩ := bcell hb) | (obtain ⟨hbc, hbf, hbz⟩ := bcell hb))
    go_wp2
    go_ret
    exact ⟨ret_int HX.out.symm, Below.trans HAL.out (hb.mono HAL.out.size)⟩
end Go.Proofs.Ytafjlklcffbbfaa
