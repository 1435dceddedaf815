/- Two schedules with one order of conflicts: contract of the program's IsSame. -/
import Derived.Test.YtaflkbemecjcpaaSmS
import Derived.Test.YtaflkbemecjcpaaSmP
namespace Go.Proofs.Ytaflkbemecjcpaa
set_option linter.unusedSimpArgs false
set_option linter.unusedVariables false
open Go.RowKit Go.Maps
set_option maxRecDepth 100000 in
set_option maxHeartbeats 4000000 in
theorem impl_IsSame_any (A A' : Option Addr) (c c' : Nat) (a b : List O3) (w : World) (ha : a.length ≤ 1048576) (hbl : b.length ≤ 1048576) (hc : a.length ≤ c) (hc2 : b.length ≤ c') (hR : RdO w w.heap.size A a) (hR' : RdO w w.heap.size A' b) :
    Calls Try.prog 26 #[.slice A a.length c, .slice A' b.length c'] w fun e w' => e = .returned (.bool (isV a b)) ∧ Below w.heap.size w w' := by
  have HMa := Lib.hid (show a.length ≤ maxLen by unfold maxLen; omega)
  have HMb := Lib.hid (show b.length ≤ maxLen by unfold maxLen; omega)
  cases hva : tt (ValidP a)
  · have hs : isV a b = false := by unfold isV; rw [hva]; rfl
    rw [hs]
    have HVa := Lib.hid hva; clear hva hs
    go_enter Try.func26, Try.ntmps26
    go_wp2_with fail
    refine (impl_ValidSchedule_any _ _ _ _ HMa.out hc hR).mono ?_
    rintro e w1 ⟨rfl, hb1⟩
    rw [HVa.out]
    go_wp2
    go_ret
    exact ⟨rfl, by (repeat' (first | (with_reducible exact Below.refl _ _) | (with_reducible assumption) | (with_reducible refine Below.al ?_ _) | (with_reducible refine Below.drew ?_) | (with_reducible refine Below.drN ?_ _) | (with_reducible refine Below.via (by with_reducible assumption) ?_) | (with_reducible refine Below.setc ?_ ?_ _) | (with_reducible exact Nat.le_refl _) | (simp; done) | (simp; omega)))⟩
  · have HVa := Lib.hid hva
    cases hvb : tt (ValidP b)
    · have hs : isV a b = false := by unfold isV; rw [hva, hvb]; rfl
      rw [hs]
      have HVb := Lib.hid hvb; clear hva hvb hs
      go_enter Try.func26, Try.ntmps26
      go_wp2_with fail
      refine (impl_ValidSchedule_any _ _ _ _ HMa.out hc hR).mono ?_
      rintro e w1 ⟨rfl, hb1⟩
      rw [HVa.out]
      go_wp2_with fail
      refine (impl_ValidSchedule_any _ _ _ _ HMb.out hc2 (hR'.on hb1)).mono ?_
      rintro e w2 ⟨rfl, hb2⟩
      rw [HVb.out]
      go_wp2
      go_ret
      exact ⟨rfl, by (repeat' (first | (with_reducible exact Below.refl _ _) | (with_reducible assumption) | (with_reducible refine Below.al ?_ _) | (with_reducible refine Below.drew ?_) | (with_reducible refine Below.drN ?_ _) | (with_reducible refine Below.via (by with_reducible assumption) ?_) | (with_reducible refine Below.setc ?_ ?_ _) | (with_reducible exact Nat.le_refl _) | (simp; done) | (simp; omega)))⟩
    · have HVb := Lib.hid hvb
      cases hsm : sameB a b
      · have hs : isV a b = false := by unfold isV; rw [hva, hvb, hsm]; rfl
        rw [hs]
        have HS := Lib.hid hsm; clear hva hvb hsm hs
        go_enter Try.func26, Try.ntmps26
        go_wp2_with fail
        refine (impl_ValidSchedule_any _ _ _ _ HMa.out hc hR).mono ?_
        rintro e w1 ⟨rfl, hb1⟩
        rw [HVa.out]
        go_wp2_with fail
        refine (impl_ValidSchedule_any _ _ _ _ HMb.out hc2 (hR'.on hb1)).mono ?_
        rintro e w2 ⟨rfl, hb2⟩
        rw [HVb.out]
        go_wp2_with fail
        refine (impl_sameOps_any _ _ _ _ a b _ ha hbl ((hR.on hb1).on hb2) ((hR'.on hb1).on hb2)).mono ?_
        rintro e w3 ⟨rfl, hb3⟩
        rw [HS.out]
        go_wp2
        go_ret
        exact ⟨rfl, by (repeat' (first | (with_reducible exact Below.refl _ _) | (with_reducible assumption) | (with_reducible refine Below.al ?_ _) | (with_reducible refine Below.drew ?_) | (with_reducible refine Below.drN ?_ _) | (with_reducible refine Below.via (by with_reducible assumption) ?_) | (with_reducible refine Below.setc ?_ ?_ _) | (with_reducible exact Nat.le_refl _) | (simp; done) | (simp; omega)))⟩
      · have hs : isV a b = smB a b := by unfold isV; rw [hva, hvb, hsm]; simp
        rw [hs]
        have HS := Lib.hid hsm
        have hPa : ValidP a := tt_eq.1 hva
        have ha16 := hPa.1
        have hPb : ValidP b := tt_eq.1 hvb
        have hb16 := hPb.1
        have HVA := Lib.hid (fun o (ho : o ∈ a) => show validB o = true by obtain ⟨k, hk, rfl⟩ := List.getElem_of_mem ho; exact (hPa.2 k hk).2.1)
        clear hva hvb hsm hs hPa hPb
        go_enter Try.func26, Try.ntmps26
        go_wp2_with fail
        refine (impl_ValidSchedule_any _ _ _ _ HMa.out hc hR).mono ?_
        rintro e w1 ⟨rfl, hb1⟩
        rw [HVa.out]
        go_wp2_with fail
        refine (impl_ValidSchedule_any _ _ _ _ HMb.out hc2 (hR'.on hb1)).mono ?_
        rintro e w2 ⟨rfl, hb2⟩
        rw [HVb.out]
        go_wp2_with fail
        refine (impl_sameOps_any _ _ _ _ a b _ ha hbl ((hR.on hb1).on hb2) ((hR'.on hb1).on hb2)).mono ?_
        rintro e w3 ⟨rfl, hb3⟩
        rw [HS.out]
        have hPb' : ∀ o ∈ b, validB o = true := fun o ho => by obtain ⟨k, hk, rfl⟩ := List.getElem_of_mem ho; exact ((tt_eq.1 HVb.out).2 k hk).2.1
        have HVB := Lib.hid hPb'; clear hPb'
        have B3 := Lib.hid (Below.trans hb1 ((Below.trans hb2 (hb3.mono hb2.size)).mono hb1.size))
        have RA := Lib.hid (hR.on B3.out)
        have RB := Lib.hid (hR'.on B3.out)
        clear hb1 hb2 hb3
        go_wp2_with fail
        refine (impl_placesOf_any _ _ a _ ha16 HVA.out RA.out).mono ?_
        rintro e w4 ⟨⟨D1, rfl, hM1, hP1⟩, hb4⟩
        have RB4 := Lib.hid (RB.out.on hb4)
        go_wp2_with fail
        refine (impl_placesOf_any _ _ b _ hb16 HVB.out RB4.out).mono ?_
        rintro e w5 ⟨⟨D2, rfl, hM2, hP2⟩, hb5⟩
        have hl1 := hM1.lt
        have hl2 := hM2.lt
        have hz5 := hb5.size
        have M1 := Lib.hid (hM1.kept (grown_of_b hb5 none) (by simp))
        have M2 := Lib.hid hM2
        have RA5 := Lib.hid ((RA.out.on hb4).on hb5)
        have B5 := Lib.hid (Below.trans B3.out ((Below.trans hb4 (hb5.mono hb4.size)).mono B3.out.size))
        have HP1 := Lib.hid hP1
        have HP2 := Lib.hid hP2
        obtain ⟨g1, hg1⟩ : ∃ g1, g1 = w3.heap.size := ⟨_, rfl⟩
        obtain ⟨g2, hg2⟩ : ∃ g2, g2 = w4.heap.size := ⟨_, rfl⟩
        rw [← hg1] at M1 hl1 ⊢
        rw [← hg2] at M2 hl2 ⊢
        have hl1' : g1 < w5.heap.size := M1.out.lt
        have HLK := Lib.hid (fun (W : World) (hbW : Below w5.heap.size w5 W) (i : Nat) (hi : i < a.length) => show (Instr.lookup 61 (.map (some g2)) (.agg #[.int .i64 (txI a i), .int .i64 (nmI a i)]) false).run Try.prog W = .ok (.int .i64 (plI a b i)) W by
          obtain ⟨j, hj, e1, e2⟩ := same_place HVA.out HS.out hi
          obtain ⟨c, hrun, hat, _⟩ := (M2.out.kept (grown_of_b hbW none) (by simp)).lookup_int placeT.law Try.underlying61 Try.underlying3 (zeroInt _) (placeT.rd (tx_wf HVA.out hi) (nm_wf ha16 hi))
          have hat2 := HP2.out.2 j hj (.lit (.int .i64 0))
          have ek : kpI b j = kp (txI a i) (nmI a i) := by unfold kpI; rw [e1, e2]
          rw [ek, hat] at hat2
          have hc : c = j := by simpa using hat2
          have hp : plI a b i = j := by unfold plI; rw [← e1, ← e2]; exact place_of hj
          have hrun' : (Instr.lookup 61 (.map (some g2)) (.agg #[.int .i64 (txI a i), .int .i64 (nmI a i)]) false).run Try.prog W = .ok (.int .i64 c) W := hrun
          rw [hrun', hc, hp])
        clear hM1 hM2 hP1 hP2 hb4 hb5 hg1 hg2 hl1 hz5
        obtain ⟨wz, hwz⟩ : ∃ wz : World, wz = w5 := ⟨_, rfl⟩
        subst hwz
        go_wp2_with (at_range; refine wpList_range_own _ rfl _ 61 rfl 64 3 placeT.law Try.underlying61 (plainElem (H := Unit) Try.prog 3) g1 100 _ rfl M1.out ?_; intro w0 hrg0 hg0 hs0)
        have hB0 : Below wz.heap.size wz w0 := (Below.refl _ _).grown hg0 (Nat.le_refl _) (fun j hj => by cases hj)
        go_frame
        go_loopw [8] (fun _ wr => ∃ (left : Lit → Bool) (cnt : Nat), wr.ranges Try.prog 64 (plainElem (H := Unit) Try.prog 3) g1 wz.heap.size 100 D1 left cnt ∧ (∀ i, i < a.length → left (kpI a i) = false → ∀ k, k < a.length → violI a b i k = false) ∧ Below wz.heap.size wz wr) (fun _ wr => wr.rangeLeft g1 wz.heap.size)
        case atStart => exact ⟨_, _, hrg0, fun i hi h => (by rw [has_true_of_atKey (HP1.out.2 i hi)] at h; cases h), hB0⟩
        case round =>
          clear hrg0 hB0 hg0 hs0
          obtain ⟨left, cnt, hrg, hall, hbw⟩ := hrel
          have HA := Lib.hid hall; clear hall
          have HB := Lib.hid hbw; clear hbw
          have HRG := Lib.hid hrg
          have hzr := HB.out.size
          go_wp2_with (at_next; refine wpList_next_pair _ rfl _ rfl 64 placeT (plainElem (H := Unit) Try.prog 3) g1 wz.heap.size 100 _ _ _ rfl hrg ?_ ?_)
          · intro _ hl0
            go_wp2
            go_ret
            exact ⟨ret_bool (sm_of_all HVA.out HS.out (fun i k hi hk => HA.out i hi (hl0 _) k hk)).symm, Below.trans B5.out (HB.out.mono B5.out.size)⟩
          · intro x y v d ps w1 cnt1 wx wy hlk hvv hat hrg1 hlt1 hg1 hs1 hen
            obtain ⟨i, hi, hki⟩ := HP1.out.1 _ (has_true_of_atKey hat)
            obtain ⟨hx, hy⟩ := placeT.inj wx wy (tx_wf HVA.out hi) (nm_wf ha16 hi) hki
            subst hx hy
            have hd := (hat (.map [])).symm.trans (HP1.out.2 i hi (.map []))
            obtain ⟨c1, hv1, hvd, _⟩ := plainElem_int_inv Try.underlying3 hvv
            have hc1 : c1 = i := by
              have h1 : d = .lit (.int .i64 c1) := congrArg Prod.fst hvd
              rw [hd] at h1
              simpa using h1.symm
            subst hv1 hc1
            have HB1 := Lib.hid (HB.out.grown hg1 HB.out.size (fun j hj => by cases hj; exact Nat.le_refl _))
            have HRG1 := Lib.hid hrg1
            have HLT := Lib.hid hlt1
            obtain ⟨wo, hwo⟩ : ∃ wo : World, wo = wr := ⟨_, rfl⟩
            subst hwo
            have HS1 := Lib.hid hs1
            have HBX := Lib.hid (Bx2.made w1 64 (txI a i) (nmI a i))
            obtain ⟨wb, hwb⟩ : ∃ wb, wb = w1.alloc (.cells #[.int .i64 (txI a i), .int .i64 (nmI a i)] 64) := ⟨_, rfl⟩
            rw [← hwb] at HBX
            have HRB := Lib.hid (show wb.ranges Try.prog 64 (plainElem (H := Unit) Try.prog 3) g1 wz.heap.size 100 D1 _ cnt1 by rw [hwb]; exact hrg1.alloc _)
            have HBB := Lib.hid (show Below wz.heap.size wz wb by rw [hwb]; exact Below.al HB1.out _)
            have hz1 : w1.heap.size < wb.heap.size := by rw [hwb]; simp
            have hz2 := HB1.out.size
            clear hrg hrg1 hvv hat hvd hd hki hlt1 hg1 wx wy hs1
            go_wp2_with (at_range; rw [← hwb]; clear hwb; refine wpList_range_own _ rfl _ 61 rfl 64 3 placeT.law Try.underlying61 (plainElem (H := Unit) Try.prog 3) g1 100 _ rfl HRB.out.owns ?_; intro w6 hrg6 hg6 hs6)
            have hB6 : Below wz.heap.size wz w6 := HBB.out.grown hg6 HBB.out.size (fun j hj => by cases hj)
            have hO6 := HRB.out.kept hg6 (by simp) (by simp)
            have hX6 : Bx2 w6 w1.heap.size 64 (txI a i) (nmI a i) := (hg6.block _ hz1 (by simp)).trans HBX.out
            go_frame
            go_loopw [10] (fun _ wr => ∃ (left2 : Lit → Bool) (cnt2 : Nat), wr.ranges Try.prog 64 (plainElem (H := Unit) Try.prog 3) g1 wb.heap.size 100 D1 left2 cnt2 ∧ wr.ranges Try.prog 64 (plainElem (H := Unit) Try.prog 3) g1 wz.heap.size 100 D1 (fun z => left z && !z.sameKey (kp (txI a i) (nmI a i))) cnt1 ∧ Bx2 wr w1.heap.size 64 (txI a i) (nmI a i) ∧ (∀ k, k < a.length → left2 (kpI a k) = false → violI a b i k = false) ∧ Below wz.heap.size wz wr) (fun _ wr => wr.rangeLeft g1 wb.heap.size)
            case atStart => exact ⟨_, _, hrg6, hO6, hX6, fun k hk h => (by rw [has_true_of_atKey (HP1.out.2 k hk)] at h; cases h), hB6⟩
            case round =>
              clear hrg6 hO6 hX6 hB6 hg6 hs6
              obtain ⟨left2, cnt2, hrg, hrgo, hx, hall, hbw⟩ := hrel
              have HA2 := Lib.hid hall; clear hall
              have HB2 := Lib.hid hbw; clear hbw
              have HRO := Lib.hid hrgo; clear hrgo
              have HX2 := Lib.hid hx; clear hx
              have HRI := Lib.hid hrg
              go_wp2_with (at_next; refine wpList_next_pair _ rfl _ rfl 64 placeT (plainElem (H := Unit) Try.prog 3) g1 wb.heap.size 100 _ _ _ rfl hrg ?_ ?_)
              · intro _ hl0
                go_wp2
                refine ⟨⟨_, cnt1, HRO.out, fun i' hi' hlf k hk => ?_, HB2.out⟩, by rw [HRO.out.left_eq, HRG.out.left_eq]; exact HLT.out⟩
                by_cases e : i' = i
                · subst e; exact HA2.out k hk (hl0 _)
                · refine HA.out i' hi' ?_ k hk
                  have h1 : (kpI a i').sameKey (kp (txI a i) (nmI a i)) = false := sameKey_ne (fun h => e (kpI_inj HVA.out ha16 hi' hi h))
                  rw [h1] at hlf
                  simpa using hlf
              · intro x y v d ps w7 cnt7 wx wy hlk hvv hat hrg7 hlt7 hg7 hs7 hen
                obtain ⟨k, hk, hkk⟩ := HP1.out.1 _ (has_true_of_atKey hat)
                obtain ⟨hx, hy⟩ := placeT.inj wx wy (tx_wf HVA.out hk) (nm_wf ha16 hk) hkk
                subst hx hy
                have hd := (hat (.map [])).symm.trans (HP1.out.2 k hk (.map []))
                obtain ⟨c1, hv1, hvd, _⟩ := plainElem_int_inv Try.underlying3 hvv
                have hc1 : c1 = k := by
                  have h1 : d = .lit (.int .i64 c1) := congrArg Prod.fst hvd
                  rw [hd] at h1
                  simpa using h1.symm
                subst hv1 hc1
                have hB7 : Below wz.heap.size wz w7 := HB2.out.grown hg7 HB2.out.size (fun j hj => by cases hj; have := HBB.out.size; exact this)
                have hX7 : Bx2 w7 w1.heap.size 64 (txI a i) (nmI a i) := (hg7.block _ (lt_of_block HX2.out) (by simp; omega)).trans HX2.out
                have hO7 := HRO.out.kept hg7 (by have := hl1'; have := HBB.out.size; simp; omega) (by have := hz2; simp; omega)
                obtain ⟨wq, hwq⟩ : ∃ wq, wq = w7.alloc (.cells #[.int .i64 (txI a k), .int .i64 (nmI a k)] 64) := ⟨_, rfl⟩
                have HY := Lib.hid (show Bx2 wq w7.heap.size 64 (txI a k) (nmI a k) by rw [hwq]; exact Bx2.made _ _ _ _)
                have HXq := Lib.hid (show Bx2 wq w1.heap.size 64 (txI a i) (nmI a i) by rw [hwq]; exact (Below.heap_alloc _ _ _ (lt_of_block hX7)).trans hX7)
                have HOq := Lib.hid (show wq.ranges Try.prog 64 (plainElem (H := Unit) Try.prog 3) g1 wz.heap.size 100 D1 _ cnt1 by rw [hwq]; exact hO7.alloc _)
                have HIq := Lib.hid (show wq.ranges Try.prog 64 (plainElem (H := Unit) Try.prog 3) g1 wb.heap.size 100 D1 _ cnt7 by rw [hwq]; exact hrg7.alloc _)
                have HBq := Lib.hid (show Below wz.heap.size wz wq by rw [hwq]; exact Below.al hB7 _)
                have HLT7 := Lib.hid hlt7
                have HLK1 := Lib.hid (fun x : After wq => HLK.out x.now (Below.trans HBq.out (x.below.mono HBq.out.size)) i hi)
                have HLK2 := Lib.hid (fun x : After wq => HLK.out x.now (Below.trans HBq.out (x.below.mono HBq.out.size)) k hk)
                obtain ⟨b0, off, rfl, hb0, h0, h1, h2⟩ := (RA5.out.on HBq.out).at_ hi
                obtain ⟨b0', off', he, hb0', s0, s1, s2⟩ := (RA5.out.on HBq.out).at_ hk
                injection he with he; injection he with he1 he2
                subst he1 he2
                obtain ⟨x0, x1, x2, x3, x4⟩ := HXq.out.at_
                obtain ⟨y0, y1, y2, y3, y4⟩ := HY.out.at_
                have HCA := Lib.hid (cfAt_eq hi hk)
                clear hrg hrg7 hvv hat hvd hd hkk hlt7 hg7 wx wy hs7 hB7 hX7 hO7
                cases hcf : conflB a[i] a[k]
                all_goals have HCF := Lib.hid (show conflB ⟨a[i].tx, a[i].kind, a[i].item⟩ ⟨a[k].tx, a[k].kind, a[k].item⟩ = _ from hcf)
                · have HN := Lib.hid (show violI a b i k = false by unfold violI; rw [HCA.out, hcf]; rfl)
                  clear hcf
                  go_wp2_with fail
                  rw [← hwq]
                  clear hwq
                  ((first | (with_reducible refine wp_region_from (by with_reducible assumption) follows (by kernel_rfl) ?_) | (refine wp_region_aft follows (by kernel_rfl) ?_)); (repeat (go_big_quiet_step ((go_at_call 48; exact aftb (impl_conflicts_any _ _ _ _ _ _ _) (HCF.out))))); refine wpQuiet_nil ?_; intro _ hw'; obtain ⟨⟨w1, hb⟩, rfl⟩ := hw'; (try dsimp only); first | (replace hb := Below.via hb (by with_reducible assumption); (try clear hbc hbf hbz); obtain ⟨hbc, hbf, hbz⟩ := bcell hb) | (obtain ⟨hbc, hbf, hbz⟩ := bcell hb))
                  go_wp2
                  have hg := grown_of_b hb none
                  have hi9 := HIq.out.kept hg (by simp) (by simp)
                  exact ⟨⟨_, cnt7, hi9, HOq.out.kept hg (by simp) (by simp), (hb.block _ (lt_of_block HXq.out)).trans HXq.out, fun k' hk' hlf => by
                    by_cases e : k' = k
                    · subst e; exact HN.out
                    · refine HA2.out k' hk' ?_
                      have h1 : (kpI a k').sameKey (kp (txI a k) (nmI a k)) = false := sameKey_ne (fun h => e (kpI_inj HVA.out ha16 hk' hk h))
                      rw [h1] at hlf
                      simpa using hlf, Below.trans HBq.out (hb.mono HBq.out.size)⟩, by rw [hi9.left_eq, HRI.out.left_eq]; exact HLT7.out⟩
                · have HV := Lib.hid (show violI a b i k = (!decide (i < k) == decide (plI a b i < plI a b k)) by unfold violI; rw [HCA.out, hcf, Bool.true_and, show decide ((i : Int) < k) = decide (i < k) by simp]; cases decide (i < k) <;> cases decide (plI a b i < plI a b k) <;> rfl)
                  clear hcf
                  have hk1 := HLK1.out
                  have hk2 := HLK2.out
                  cases hq : (!decide (i < k) == decide (plI a b i < plI a b k))
                  · have HN := Lib.hid (HV.out.trans hq)
                    go_wp2_with fail
                    rw [← hwq]
                    clear hwq
                    ((first | (with_reducible refine wp_region_from (by with_reducible assumption) follows (by kernel_rfl) ?_) | (refine wp_region_aft follows (by kernel_rfl) ?_)); (repeat (go_big_quiet_step ((go_at_call 48; exact aftb (impl_conflicts_any _ _ _ _ _ _ _) (HCF.out))))); refine wpQuiet_nil ?_; intro _ hw'; obtain ⟨⟨w1, hb⟩, rfl⟩ := hw'; (try dsimp only); first | (replace hb := Below.via hb (by with_reducible assumption); (try clear hbc hbf hbz); obtain ⟨hbc, hbf, hbz⟩ := bcell hb) | (obtain ⟨hbc, hbf, hbz⟩ := bcell hb))
                    clear hk1 hk2
                    go_wp2
                    have hg := grown_of_b hb none
                    have hi9 := HIq.out.kept hg (by simp) (by simp)
                    exact ⟨⟨_, cnt7, hi9, HOq.out.kept hg (by simp) (by simp), (hb.block _ (lt_of_block HXq.out)).trans HXq.out, fun k' hk' hlf => by
                      by_cases e : k' = k
                      · subst e; exact HN.out
                      · refine HA2.out k' hk' ?_
                        have h1 : (kpI a k').sameKey (kp (txI a k) (nmI a k)) = false := sameKey_ne (fun h => e (kpI_inj HVA.out ha16 hk' hk h))
                        rw [h1] at hlf
                        simpa using hlf, Below.trans HBq.out (hb.mono HBq.out.size)⟩, by rw [hi9.left_eq, HRI.out.left_eq]; exact HLT7.out⟩
                  · have HN := Lib.hid (HV.out.trans hq)
                    go_wp2_with fail
                    rw [← hwq]
                    clear hwq
                    ((first | (with_reducible refine wp_region_from (by with_reducible assumption) follows (by kernel_rfl) ?_) | (refine wp_region_aft follows (by kernel_rfl) ?_)); (repeat (go_big_quiet_step ((go_at_call 48; exact aftb (impl_conflicts_any _ _ _ _ _ _ _) (HCF.out))))); refine wpQuiet_nil ?_; intro _ hw'; obtain ⟨⟨w1, hb⟩, rfl⟩ := hw'; (try dsimp only); first | (replace hb := Below.via hb (by with_reducible assumption); (try clear hbc hbf hbz); obtain ⟨hbc, hbf, hbz⟩ := bcell hb) | (obtain ⟨hbc, hbf, hbz⟩ := bcell hb))
                    clear hk1 hk2
                    go_wp2
                    go_ret
                    exact ⟨ret_bool (sm_of_one HVA.out HS.out hi hk HN.out).symm, Below.trans B5.out ((Below.trans HBq.out (hb.mono HBq.out.size)).mono B5.out.size)⟩
end Go.Proofs.Ytaflkbemecjcpaa
