/- Who writes what a survivor reads: contract of the program's againstOf. -/
import Derived.Test.YtafjlklcffbbfaaAgS
namespace Go.Proofs.Ytafjlklcffbbfaa
set_option linter.unusedSimpArgs false
set_option linter.unusedVariables false
open Go.RowKit
theorem bit_ofN (l : List O3) (k : Nat) (t : Int) (m : Nat) (hm : m ≤ 2) (b : Bool) (h : tchB l k t 1 m = b) : (bits .and .i64 (maskAt l k t / 2 ^ m) 1 == 1) = b := by
  rcases (show m = 0 ∨ m = 1 ∨ m = 2 by omega) with rfl | rfl | rfl
  · have := bit_of0 l k t b h
    simpa using this
  · have := bit_of1 l k t b h
    simpa using this
  · have := bit_of2 l k t b h
    simpa using this
theorem valid_itemN {l : List O3} (hv : ValidP l) {k : Nat} (hk : k < l.length) : ∃ m : Nat, l[k].item = m ∧ m ≤ 2 := by
  rcases valid_item3 hv hk with h | h | h
  · exact ⟨0, h, by omega⟩
  · exact ⟨1, h, by omega⟩
  · exact ⟨2, h, by omega⟩
set_option maxRecDepth 100000 in
set_option maxHeartbeats 4000000 in
theorem impl_againstOf_any (A : Option Addr) (c : Nat) (l : List O3) (w : World) (hv : ValidP l) (hc : l.length ≤ c) (hR : RdO w w.heap.size A l) :
    Calls Try.prog 36 #[.slice A l.length c] w fun e w' => (∃ v, e = .returned v ∧ OwnI w' w.heap.size 3 v (agTo l (survL l) l.length)) ∧ Below w.heap.size w w' := by
  have hl16 := hv.1
  have HM := Lib.hid (show l.length ≤ maxLen by unfold maxLen; omega)
  have h16 := surv_le16 hl16
  have HML := Lib.hid (show (survL l).length ≤ maxLen by unfold maxLen; omega)
  have HV := Lib.hid hv; clear hv
  have HCM := Lib.hid (fun u (hu : u ∈ survL l) => surv_num HV.out hu)
  obtain ⟨i0, hi0, hz0, hz1, hz2⟩ := info_parts info_I
  have H1 := Lib.hid (show i0.bytes * 4 ≤ 281474976710656 by rw [hz2]; omega)
  have H2 := Lib.hid (show 4 ≤ maxLen by unfold maxLen; omega)
  go_enter Try.func36, Try.ntmps36
  go_wp2_with (first | (at_make; refine wpList_make_full _ rfl _ _ 24 rfl w.heap.size 3 i0 _ 1 Try.underlying24 hi0 hz0 hz1 .i64 .i64 _ _ 4 rfl rfl rfl rfl H1.out H2.out (Nat.le_refl _) ?_; intro W hOW hg; have hbW : Below w.heap.size w W := (Below.refl _ _).grown hg (Nat.le_refl _) (by simp); clear hg) | (go_at_call 31; refine (impl_survivorsOf_any _ _ _ _ HV.out (hR.on hbW)).mono ?_; rintro e w2 ⟨⟨v, rfl, hO2⟩, hb2⟩; obtain ⟨A9, c9, rfl, hO9⟩ := hO2.reads))
  have hne : (Value.slice A9 (survL l).length c9).ownBlock = none ∨ (Value.slice A9 (survL l).length c9).ownBlock ≠ some w.heap.size := by
    have hlt : w.heap.size < W.heap.size := (hOW.lt _ rfl).2
    cases hv : (Value.slice A9 (survL l).length c9).ownBlock with
    | none => exact .inl rfl
    | some q => refine .inr ?_; have h := (OwnG.own_lt hO2 q hv).1; simp; omega
  have HNE := Lib.hid hne
  have HL2 := Lib.hid hO2
  have HRA := Lib.hid hR
  have hB2 : Below w.heap.size w w2 := Below.trans hbW (hb2.mono hbW.size)
  have hO0 : OwnI w2 w.heap.size 3 (.slice (some ⟨w.heap.size, 0, none⟩) 4 4) (agTo l (survL l) 0) := OwnI.on (OwnG.of_row (by simpa [madeCells, cellsI, agTo, Value.cells, List.range_succ] using hOW)) hb2
  clear hOW hbW hO2 hO9 hb2 hne hR
  go_loopw [5, 6, 14] (fun _ _ v14 wr => ∃ (k : Nat), k ≤ l.length ∧ v14 = .int .i64 k ∧ OwnI wr w.heap.size 3 (.slice (some ⟨w.heap.size, 0, none⟩) 4 4) (agTo l (survL l) k) ∧ w2.grownBy wr (some w.heap.size) ∧ Below w.heap.size w wr) (fun _ _ v14 _ => l.length - (intOf v14).toNat)
  case atStart => exact ⟨0, Nat.zero_le _, rfl, hO0, World.grownBy.refl _ _, hB2⟩
  case round =>
    clear hO0 hB2
    obtain ⟨k, hk, rfl, hown, hgw, hbw⟩ := hrel
    have HO := Lib.hid hown; clear hown
    have HG := Lib.hid hgw; clear hgw
    have HB := Lib.hid hbw; clear hbw
    have hszr := HB.out.size
    by_cases hlt : k < l.length
    · obtain ⟨b, off, rfl, hb, h0, h1, h2⟩ := (HRA.out.on HB.out).at_ hlt
      obtain ⟨n, hn, hn3⟩ := valid_num HV.out hlt
      obtain ⟨m, hm, hm2⟩ := valid_itemN HV.out hlt
      have HSK := Lib.hid (show agSkip l (survL l) k = (!(l[k].kind == 0) || (!((survL l).contains (n : Int)) || tchB l k n 1 m)) by rw [skip_eq (survL l) hlt, hn, hm])
      have HCE := Lib.hid (fun u => show agCond l k u = (!(u == (n : Int)) && (decide (firstOf l n < comAt l u) && tchB l l.length u 1 m)) by rw [cond_eq hlt u, hn, hm])
      have HF := Lib.hid (show idxB (fun o => o.tx == (n : Int)) l = firstOf l n by rw [← hn]; exact first_idx hlt)
      have HTX := Lib.hid (show txAt l k = n by rw [txAt_eq hlt, hn])
      rw [hn] at h0
      rw [hm] at h2
      clear hn hm
      obtain ⟨wb, hwb⟩ : ∃ wb, wb = wr.alloc (.cells #[.int .i64 n, .int .i64 l[k].kind, .int .i64 m] 43) := ⟨_, rfl⟩
      have hal : Below wr.heap.size wr wb := by rw [hwb]; (repeat' (first | (with_reducible exact Below.refl _ _) | (with_reducible assumption) | (with_reducible refine Below.al ?_ _) | (with_reducible refine Below.drew ?_) | (with_reducible refine Below.drN ?_ _) | (with_reducible refine Below.via (by with_reducible assumption) ?_) | (with_reducible refine Below.setc ?_ ?_ _) | (with_reducible exact Nat.le_refl _) | (simp; done) | (simp; omega)))
      have hbx : Bx3 wb wr.heap.size 43 n l[k].kind m := by rw [hwb]; exact Bx3.made wr _ _ _ _
      have HBX := Lib.hid hbx
      obtain ⟨x0, x1, x2, x3, x4, x5, x6⟩ := hbx.at_
      have hgne : wr.heap.size ≠ w.heap.size := by
        have h : w.heap.size < wr.heap.size := (OwnG.own_lt HO.out _ rfl).2
        omega
      have HOb := Lib.hid (OwnI.on HO.out hal)
      have HGb := Lib.hid (HG.out.trans (grown_of_b hal _))
      have HBb := Lib.hid (Below.trans HB.out (hal.mono HB.out.size))
      have HR2 := Lib.hid (HRA.out.on HBb.out)
      have HLL := Lib.hid (OwnI.rd (OwnG.far HL2.out HGb.out HNE.out))
      have hbw : b < wb.heap.size := by have := hal.size; omega
      have hkc : k ≤ c := by omega
      clear hbx hal
      cases e1 : (l[k].kind == 0)
      · have HN := Lib.hid (agTo_skip (l := l) (L := survL l) (k := k) (by rw [HSK.out, e1]; rfl))
        have e1' : (l[k].kind != 0) = true := by rw [bne, e1]; rfl
        clear e1
        go_wp2_with fail
        rw [← hwb]
        clear hwb
        ((first | (with_reducible refine wp_region_from (by with_reducible assumption) follows (by kernel_rfl) ?_) | (refine wp_region_aft follows (by kernel_rfl) ?_)); (repeat (go_big_quiet_step (fail))); refine wpQuiet_nil ?_; intro _ hw'; obtain ⟨⟨w1, hb⟩, rfl⟩ := hw'; (try dsimp only); first | (replace hb := Below.via hb (by with_reducible assumption); (try clear hbc hbf hbz); obtain ⟨hbc, hbf, hbz⟩ := bcell hb) | (obtain ⟨hbc, hbf, hbz⟩ := bcell hb))
        go_wp2
        exact ⟨⟨k + 1, by omega, by go_num, by rw [HN.out]; exact (OwnI.on HOb.out hb), HGb.out.trans (grown_of_b hb _), Below.trans HBb.out (hb.mono HBb.out.size)⟩, by simp [intOf]; omega⟩
      · have e1' : (l[k].kind != 0) = false := by rw [bne, e1]; rfl
        cases e2 : (survL l).contains (n : Int)
        · have HN := Lib.hid (agTo_skip (l := l) (L := survL l) (k := k) (by rw [HSK.out, e1, e2]; rfl))
          have E2 := Lib.hid e2
          clear e1 e2
          go_wp2_with fail
          rw [← hwb]
          clear hwb
          ((first | (with_reducible refine wp_region_from (by with_reducible assumption) follows (by kernel_rfl) ?_) | (refine wp_region_aft follows (by kernel_rfl) ?_)); (repeat (go_big_quiet_step (first | (go_at_call 58; exact aftb_same (Contains_list_any _ _ _ _ _ HML.out ((HLL.out).on (After.below _))) (E2.out)) | (go_at_call 53; exact aft (impl_writesOf_take _ _ l k _ _ HV.out (by omega) (HR2.out.on (After.below _))))))); refine wpQuiet_nil ?_; intro _ hw'; obtain ⟨⟨w1, hb⟩, rfl⟩ := hw'; (try dsimp only); first | (replace hb := Below.via hb (by with_reducible assumption); (try clear hbc hbf hbz); obtain ⟨hbc, hbf, hbz⟩ := bcell hb) | (obtain ⟨hbc, hbf, hbz⟩ := bcell hb))
          go_wp2
          exact ⟨⟨k + 1, by omega, by go_num, by rw [HN.out]; exact (OwnI.on HOb.out hb), HGb.out.trans (grown_of_b hb _), Below.trans HBb.out (hb.mono HBb.out.size)⟩, by simp [intOf]; omega⟩
        · cases e3 : tchB l k n 1 m
          · have HNN := Lib.hid (agTo_in (l := l) (L := survL l) (k := k) (by rw [HSK.out, e1, e2, e3]; rfl))
            have E2 := Lib.hid e2
            have hbit := bit_ofN _ _ _ _ hm2 _ e3
            clear e1 e2 e3
            go_wp2_with fail
            rw [← hwb]
            clear hwb
            ((first | (with_reducible refine wp_region_from (by with_reducible assumption) follows (by kernel_rfl) ?_) | (refine wp_region_aft follows (by kernel_rfl) ?_)); (repeat (go_big_quiet_step (first | (go_at_call 58; exact aftb_same (Contains_list_any _ _ _ _ _ HML.out ((HLL.out).on (After.below _))) (E2.out)) | (go_at_call 53; exact aft (impl_writesOf_take _ _ l k _ _ HV.out (by omega) (HR2.out.on (After.below _))))))); refine wpQuiet_nil ?_; intro _ hw'; obtain ⟨⟨w1, hb⟩, rfl⟩ := hw'; (try dsimp only); first | (replace hb := Below.via hb (by with_reducible assumption); (try clear hbc hbf hbz); obtain ⟨hbc, hbf, hbz⟩ := bcell hb) | (obtain ⟨hbc, hbf, hbz⟩ := bcell hb))
            rename_i w5
            clear hbit x0 x1 x2 x3 x4 x5 x6
            have HO5 := Lib.hid (OwnI.on HOb.out hb)
            have HG5 := Lib.hid (show wb.grownBy w5 (some w.heap.size) from grown_of_b hb _)
            have HB5 := Lib.hid (Below.trans HBb.out (hb.mono HBb.out.size))
            clear hb
            go_wp2_with fail
            go_loopw [8, 44] (fun _ v44 wr => ∃ (j : Nat), j ≤ (survL l).length ∧ v44 = .int .i64 j ∧ OwnI wr w.heap.size 3 (.slice (some ⟨w.heap.size, 0, none⟩) 4 4) (agIn l k (survL l) (agTo l (survL l) k) j) ∧ wb.grownBy wr (some w.heap.size) ∧ Below w.heap.size w wr) (fun _ v44 _ => (survL l).length - (intOf v44).toNat)
            case atStart => exact ⟨0, Nat.zero_le _, rfl, HO5.out, HG5.out, HB5.out⟩
            case round =>
              clear h0 h1 h2
              obtain ⟨j, hj, rfl, hown, hgw, hbw⟩ := hrel
              have HO2 := Lib.hid hown; clear hown
              have HG2 := Lib.hid hgw; clear hgw
              have HB2 := Lib.hid hbw; clear hbw
              by_cases hjl : j < (survL l).length
              · have HR3 := Lib.hid (HRA.out.on HB2.out)
                have HLL2 := Lib.hid (OwnG.far HL2.out (HGb.out.trans HG2.out) HNE.out)
                have HBX2 := Lib.hid (HBX.out.gr HG2.out hgne)
                obtain ⟨b2, off2, rfl, hb2, r0⟩ := (OwnI.rd HLL2.out).at_ hjl
                obtain ⟨hjj, v, hv, hv3⟩ := HCM.out _ (List.getElem_mem hjl)
                have HCI := Lib.hid (com_idx HV.out hjj)
                rw [hv] at r0 HCI
                have HC3 := Lib.hid (HCE.out (v : Int))
                have HVV := Lib.hid hv
                obtain ⟨x0, x1, x2, x3, x4, x5, x6⟩ := HBX2.out.at_
                clear hjj hv
                cases e4 : ((v : Int) == (n : Int))
                · have e4' : ((v : Int) != (n : Int)) = true := by rw [bne, e4]; rfl
                  by_cases hcf : firstOf l n < comAt l v
                  · have hcf' : (firstOf l n : Int) < (comAt l v : Int) := by omega
                    cases e6 : tchB l l.length v 1 m
                    · have HN := Lib.hid (agIn_no (l := l) (i := k) (m := agTo l (survL l) k) hjl (by rw [HVV.out, HC3.out, e6]; simp))
                      have hbit := bit_ofN _ _ _ _ hm2 _ e6
                      clear e4 e6
                      go_wp2_with fail
                      ((first | (with_reducible refine wp_region_from (by with_reducible assumption) follows (by kernel_rfl) ?_) | (refine wp_region_aft follows (by kernel_rfl) ?_)); (repeat (go_big_quiet_step (first | (go_at_call 51; exact aft (impl_commitOf_any _ _ _ _ _ _ HCI.out HM.out (HR3.out.on (After.below _)))) | (go_at_call 52; exact aft (impl_firstOf_any _ _ _ _ _ _ HF.out (by omega) (HR3.out.on (After.below _)))) | (go_at_call 53; exact aft (impl_writesOf_any _ _ l _ _ HV.out (HR3.out.on (After.below _))))))); refine wpQuiet_nil ?_; intro _ hw'; obtain ⟨⟨w1, hb⟩, rfl⟩ := hw'; (try dsimp only); first | (replace hb := Below.via hb (by with_reducible assumption); (try clear hbc hbf hbz); obtain ⟨hbc, hbf, hbz⟩ := bcell hb) | (obtain ⟨hbc, hbf, hbz⟩ := bcell hb))
                      rename_i w7
                      have hb7 := hb
                      go_wp2
                      exact ⟨⟨j + 1, by omega, by go_num, by rw [HN.out]; exact HO2.out.on hb7, HG2.out.trans (grown_of_b hb7 _), Below.trans HB2.out (hb7.mono HB2.out.size)⟩, by simp [intOf]; omega⟩
                    · have HN := Lib.hid (agIn_yes (l := l) (i := k) (m := agTo l (survL l) k) hjl (by rw [HVV.out, HC3.out, e6, e4]; simp [hcf]))
                      have hbit := bit_ofN _ _ _ _ hm2 _ e6
                      clear e4 e6
                      go_wp2_with fail
                      ((first | (with_reducible refine wp_region_from (by with_reducible assumption) follows (by kernel_rfl) ?_) | (refine wp_region_aft follows (by kernel_rfl) ?_)); (repeat (go_big_quiet_step (first | (go_at_call 51; exact aft (impl_commitOf_any _ _ _ _ _ _ HCI.out HM.out (HR3.out.on (After.below _)))) | (go_at_call 52; exact aft (impl_firstOf_any _ _ _ _ _ _ HF.out (by omega) (HR3.out.on (After.below _)))) | (go_at_call 53; exact aft (impl_writesOf_any _ _ l _ _ HV.out (HR3.out.on (After.below _))))))); refine wpQuiet_nil ?_; intro _ hw'; obtain ⟨⟨w1, hb⟩, rfl⟩ := hw'; (try dsimp only); first | (replace hb := Below.via hb (by with_reducible assumption); (try clear hbc hbf hbz); obtain ⟨hbc, hbf, hbz⟩ := bcell hb) | (obtain ⟨hbc, hbf, hbz⟩ := bcell hb))
                      rename_i w7
                      have hlen : n < (agIn l k (survL l) (agTo l (survL l) k) j).length := by rw [agIn_len, agTo_len]; omega
                      have HO7 := Lib.hid (HO2.out.on hb)
                      have HG7 := Lib.hid (HG2.out.trans (grown_of_b hb _))
                      have HB7 := Lib.hid (Below.trans HB2.out (hb.mono HB2.out.size))
                      obtain ⟨_, c7, c8, c9'⟩ := OwnI.cells HO7.out hlen
                      obtain ⟨y0, y1, y2, y3, y4, y5, y6⟩ := (HBX2.out.be hb).at_
                      have hn4 : (n : Int) < 4 := by omega
                      have hv64 : (v : Int) ≤ 64 := by omega
                      have HW := Lib.hid (show wrap64 (2 ^ v) = pwN v by unfold wrap64 pwN; rcases (show v = 0 ∨ v = 1 ∨ v = 2 ∨ v = 3 by omega) with rfl | rfl | rfl | rfl <;> decide)
                      clear hb hbc hbf hbz r0 x0 x1 x2 x3 x4 x5 x6 hbit
                      go_wp2_with fail
                      refine wp_region_still_tail 9 (by kernel_rfl) (by kernel_rfl) ?_
                      simp only [List.take_succ_cons, List.take_zero, List.drop_succ_cons, List.drop_zero]
                      repeat still_step
                      refine wpStill_nil ?_
                      change wpList _ _ _ _ _ w7.drew
                      go_wp2_with fail
                      refine ⟨⟨j + 1, by omega, by go_num, ?_, ag_grown HG7.out, Below.drew (Below.setCell HB7.out (p := ⟨w.heap.size, n, none⟩) (Nat.le_refl _) _)⟩, by simp [intOf]; omega⟩
                      have e : agIn l k (survL l) (agTo l (survL l) k) (j + 1) = (agIn l k (survL l) (agTo l (survL l) k) j).set n (bits .or .i64 (agIn l k (survL l) (agTo l (survL l) k) j)[n] (wrap64 (2 ^ v))) := by
                        rw [HN.out, HTX.out, HVV.out, HW.out]
                        exact agSet_at hlen
                      rw [e]
                      exact OwnG.kept (OwnI.set_ HO7.out (by rw [agIn_len, agTo_len]) n _) (fun _ _ => rfl)
                  · have hcf' : ¬ (firstOf l n : Int) < (comAt l v : Int) := by omega
                    have HN := Lib.hid (agIn_no (l := l) (i := k) (m := agTo l (survL l) k) hjl (by rw [HVV.out, HC3.out]; simp [hcf]))
                    clear e4
                    go_wp2_with fail
                    ((first | (with_reducible refine wp_region_from (by with_reducible assumption) follows (by kernel_rfl) ?_) | (refine wp_region_aft follows (by kernel_rfl) ?_)); (repeat (go_big_quiet_step (first | (go_at_call 51; exact aft (impl_commitOf_any _ _ _ _ _ _ HCI.out HM.out (HR3.out.on (After.below _)))) | (go_at_call 52; exact aft (impl_firstOf_any _ _ _ _ _ _ HF.out (by omega) (HR3.out.on (After.below _)))) | (go_at_call 53; exact aft (impl_writesOf_any _ _ l _ _ HV.out (HR3.out.on (After.below _))))))); refine wpQuiet_nil ?_; intro _ hw'; obtain ⟨⟨w1, hb⟩, rfl⟩ := hw'; (try dsimp only); first | (replace hb := Below.via hb (by with_reducible assumption); (try clear hbc hbf hbz); obtain ⟨hbc, hbf, hbz⟩ := bcell hb) | (obtain ⟨hbc, hbf, hbz⟩ := bcell hb))
                    rename_i w7
                    have hb7 := hb
                    go_wp2
                    exact ⟨⟨j + 1, by omega, by go_num, by rw [HN.out]; exact HO2.out.on hb7, HG2.out.trans (grown_of_b hb7 _), Below.trans HB2.out (hb7.mono HB2.out.size)⟩, by simp [intOf]; omega⟩
                · have e4' : ((v : Int) != (n : Int)) = false := by rw [bne, e4]; rfl
                  have HN := Lib.hid (agIn_no (l := l) (i := k) (m := agTo l (survL l) k) hjl (by rw [HVV.out, HC3.out, e4]; rfl))
                  clear e4
                  go_wp2_with fail
                  ((first | (with_reducible refine wp_region_from (by with_reducible assumption) follows (by kernel_rfl) ?_) | (refine wp_region_aft follows (by kernel_rfl) ?_)); (repeat (go_big_quiet_step (fail))); refine wpQuiet_nil ?_; intro _ hw'; obtain ⟨⟨w1, hb⟩, rfl⟩ := hw'; (try dsimp only); first | (replace hb := Below.via hb (by with_reducible assumption); (try clear hbc hbf hbz); obtain ⟨hbc, hbf, hbz⟩ := bcell hb) | (obtain ⟨hbc, hbf, hbz⟩ := bcell hb))
                  rename_i w7
                  have hb7 := hb
                  go_wp2
                  exact ⟨⟨j + 1, by omega, by go_num, by rw [HN.out]; exact HO2.out.on hb7, HG2.out.trans (grown_of_b hb7 _), Below.trans HB2.out (hb7.mono HB2.out.size)⟩, by simp [intOf]; omega⟩
              · have hj' : j = (survL l).length := by omega
                have HJ := Lib.hid hj'; clear hj'
                go_wp2
                exact ⟨⟨k + 1, by omega, by go_num, by rw [HNN.out]; have h := HO2.out; rw [HJ.out] at h; exact h, HGb.out.trans HG2.out, HB2.out⟩, by simp [intOf]; omega⟩
          · have HN := Lib.hid (agTo_skip (l := l) (L := survL l) (k := k) (by rw [HSK.out, e1, e2, e3]; rfl))
            have E2 := Lib.hid e2
            have hbit := bit_ofN _ _ _ _ hm2 _ e3
            clear e1 e2 e3
            go_wp2_with fail
            rw [← hwb]
            clear hwb
            ((first | (with_reducible refine wp_region_from (by with_reducible assumption) follows (by kernel_rfl) ?_) | (refine wp_region_aft follows (by kernel_rfl) ?_)); (repeat (go_big_quiet_step (first | (go_at_call 58; exact aftb_same (Contains_list_any _ _ _ _ _ HML.out ((HLL.out).on (After.below _))) (E2.out)) | (go_at_call 53; exact aft (impl_writesOf_take _ _ l k _ _ HV.out (by omega) (HR2.out.on (After.below _))))))); refine wpQuiet_nil ?_; intro _ hw'; obtain ⟨⟨w1, hb⟩, rfl⟩ := hw'; (try dsimp only); first | (replace hb := Below.via hb (by with_reducible assumption); (try clear hbc hbf hbz); obtain ⟨hbc, hbf, hbz⟩ := bcell hb) | (obtain ⟨hbc, hbf, hbz⟩ := bcell hb))
            go_wp2
            exact ⟨⟨k + 1, by omega, by go_num, by rw [HN.out]; exact (OwnI.on HOb.out hb), HGb.out.trans (grown_of_b hb _), Below.trans HBb.out (hb.mono HBb.out.size)⟩, by simp [intOf]; omega⟩
    · have hk' : k = l.length := by omega
      have HK := Lib.hid hk'; clear hk'
      go_wp2
      go_ret
      exact ⟨⟨_, rfl, by have h := HO.out; rw [HK.out] at h; exact h⟩, HB.out⟩
set_option maxHeartbeats 400000 in
theorem spec_AgainstOf_any (A : Option Addr) (c : Nat) (l : List O3) (w : World) (hl : l.length ≤ 1048576) (hc : l.length ≤ c) (hR : RdO w w.heap.size A l) :
    Calls Try.prog 20 #[.slice A l.length c] w fun e w' => (∃ v, e = .returned v ∧ OwnI w' w.heap.size 3 v (agV l)) ∧ Below w.heap.size w w' := by
  have HM := Lib.hid (show l.length ≤ maxLen by unfold maxLen; omega)
  rcases Bool.eq_false_or_eq_true (tt (ValidP l)) with hv | hv
  all_goals have HV := Lib.hid hv
  · have HP := Lib.hid (tt_eq.1 hv)
    clear hv
    go_enter Try.func20, Try.ntmps20
    go_wp2_with (first | (go_at_call 27; refine (spec_validSchedule_any _ _ _ _ HM.out hR).mono ?_; rintro e w1 ⟨rfl, hb1⟩; rw [HV.out]) | (go_at_call 35; refine (spec_against_any _ _ _ _ HP.out (hR.on hb1)).mono ?_; rintro e w2 ⟨⟨v, rfl, hO⟩, hb2⟩))
    go_ret
    exact ⟨⟨_, rfl, by rw [agV, HV.out, if_pos rfl]; exact OwnG.low hO hb1.size⟩, by (repeat' (first | (with_reducible exact Below.refl _ _) | (with_reducible assumption) | (with_reducible refine Below.al ?_ _) | (with_reducible refine Below.drew ?_) | (with_reducible refine Below.drN ?_ _) | (with_reducible refine Below.via (by with_reducible assumption) ?_) | (with_reducible refine Below.setc ?_ ?_ _) | (with_reducible exact Nat.le_refl _) | (simp; done) | (simp; omega)))⟩
  · clear hv
    go_enter Try.func20, Try.ntmps20
    go_wp2_with (go_at_call 27; refine (spec_validSchedule_any _ _ _ _ HM.out hR).mono ?_; rintro e w1 ⟨rfl, hb1⟩; rw [HV.out])
    go_ret
    exact ⟨⟨_, rfl, by rw [agV, HV.out]; exact OwnI.nil_⟩, by (repeat' (first | (with_reducible exact Below.refl _ _) | (with_reducible assumption) | (with_reducible refine Below.al ?_ _) | (with_reducible refine Below.drew ?_) | (with_reducible refine Below.drN ?_ _) | (with_reducible refine Below.via (by with_reducible assumption) ?_) | (with_reducible refine Below.setc ?_ ?_ _) | (with_reducible exact Nat.le_refl _) | (simp; done) | (simp; omega)))⟩
set_option maxHeartbeats 400000 in
theorem impl_AgainstOf_any (A : Option Addr) (c : Nat) (l : List O3) (w : World) (hl : l.length ≤ 1048576) (hc : l.length ≤ c) (hR : RdO w w.heap.size A l) :
    Calls Try.prog 21 #[.slice A l.length c] w fun e w' => (∃ v, e = .returned v ∧ OwnI w' w.heap.size 3 v (agV l)) ∧ Below w.heap.size w w' := by
  have HM := Lib.hid (show l.length ≤ maxLen by unfold maxLen; omega)
  rcases Bool.eq_false_or_eq_true (tt (ValidP l)) with hv | hv
  all_goals have HV := Lib.hid hv
  · have HP := Lib.hid (tt_eq.1 hv)
    clear hv
    go_enter Try.func21, Try.ntmps21
    go_wp2_with (first | (go_at_call 30; refine (impl_ValidSchedule_any _ _ _ _ HM.out hc hR).mono ?_; rintro e w1 ⟨rfl, hb1⟩; rw [HV.out]) | (go_at_call 36; refine (impl_againstOf_any _ _ _ _ HP.out hc (hR.on hb1)).mono ?_; rintro e w2 ⟨⟨v, rfl, hO⟩, hb2⟩))
    go_ret
    exact ⟨⟨_, rfl, by rw [agV, HV.out, if_pos rfl]; exact OwnG.low hO hb1.size⟩, by (repeat' (first | (with_reducible exact Below.refl _ _) | (with_reducible assumption) | (with_reducible refine Below.al ?_ _) | (with_reducible refine Below.drew ?_) | (with_reducible refine Below.drN ?_ _) | (with_reducible refine Below.via (by with_reducible assumption) ?_) | (with_reducible refine Below.setc ?_ ?_ _) | (with_reducible exact Nat.le_refl _) | (simp; done) | (simp; omega)))⟩
  · clear hv
    go_enter Try.func21, Try.ntmps21
    go_wp2_with (go_at_call 30; refine (impl_ValidSchedule_any _ _ _ _ HM.out hc hR).mono ?_; rintro e w1 ⟨rfl, hb1⟩; rw [HV.out])
    go_ret
    exact ⟨⟨_, rfl, by rw [agV, HV.out]; exact OwnI.nil_⟩, by (repeat' (first | (with_reducible exact Below.refl _ _) | (with_reducible assumption) | (with_reducible refine Below.al ?_ _) | (with_reducible refine Below.drew ?_) | (with_reducible refine Below.drN ?_ _) | (with_reducible refine Below.via (by with_reducible assumption) ?_) | (with_reducible refine Below.setc ?_ ?_ _) | (with_reducible exact Nat.le_refl _) | (simp; done) | (simp; omega)))⟩
end Go.Proofs.Ytafjlklcffbbfaa
