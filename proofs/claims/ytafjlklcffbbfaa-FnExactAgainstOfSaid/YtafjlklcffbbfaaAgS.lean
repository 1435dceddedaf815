/- Who writes what a survivor reads: contract of the reference's against. -/
import Derived.Test.YtafjlklcffbbfaaAgA
import Derived.StillTailTactics
import Derived.Deep.AppendLies
namespace Go.Proofs.Ytafjlklcffbbfaa
set_option linter.unusedSimpArgs false
set_option linter.unusedVariables false
open Go.RowKit
theorem surv_num {l : List O3} (hv : ValidP l) {u : Int} (h : u ∈ survL l) : (∃ j, ∃ hj : j < l.length, l[j].tx = u ∧ l[j].kind = 2) ∧ ∃ v : Nat, u = v ∧ v ≤ 3 := by
  obtain ⟨j, hj, _, h1, h2⟩ := surv_mem h
  refine ⟨⟨j, hj, h1, h2⟩, ?_⟩
  have h3 := (hv.2 j hj).2.1
  simp [validB, inR] at h3
  exact ⟨u.toNat, by omega, by omega⟩
theorem valid_num {l : List O3} (hv : ValidP l) {k : Nat} (hk : k < l.length) : ∃ n : Nat, l[k].tx = n ∧ n ≤ 3 := by
  have h3 := (hv.2 k hk).2.1
  simp [validB, inR] at h3
  exact ⟨l[k].tx.toNat, by omega, by omega⟩
theorem grown_of_b {w w1 : World} (hb : Below w.heap.size w w1) (row : Option Nat) : w.grownBy w1 row := ⟨hb.os, hb.tape, hb.output, hb.size, fun k hk _ => hb.block k hk⟩
theorem ag_grown {w w1 : World} {g n : Nat} {v : Value} (h : w.grownBy w1 (some g)) : w.grownBy (w1.setCell ⟨g, n, none⟩ v).drew (some g) :=
  h.trans ⟨rfl, rfl, rfl, by simp, fun k _ hne => Below.heap_setCell w1 ⟨g, n, none⟩ v k (fun e => hne (by rw [e]))⟩
set_option maxRecDepth 100000 in
set_option maxHeartbeats 4000000 in
theorem spec_against_any (A : Option Addr) (c : Nat) (l : List O3) (w : World) (hv : ValidP l) (hR : RdO w w.heap.size A l) :
    Calls Try.prog 35 #[.slice A l.length c] w fun e w' => (∃ v, e = .returned v ∧ OwnI w' w.heap.size 3 v (agTo l (survL l) l.length)) ∧ Below w.heap.size w w' := by
  have hl16 := hv.1
  have HM := Lib.hid (show l.length ≤ maxLen by unfold maxLen; omega)
  have h16 := surv_le16 hl16
  have HML := Lib.hid (show (survL l).length ≤ maxLen by unfold maxLen; omega)
  have HV := Lib.hid hv; clear hv
  have HCM := Lib.hid (fun u (hu : u ∈ survL l) => surv_num HV.out hu)
  obtain ⟨i0, hi0, hz0, hz1, hz2⟩ := info_parts info_I
  have H1 := Lib.hid (show i0.bytes * 4 ≤ 281474976710656 by rw [hz2]; omega)
  have H2 := Lib.hid (show 4 ≤ maxLen by unfold maxLen; omega)
  go_enter Try.func35, Try.ntmps35
  go_wp2_with (first | (at_make; refine wpList_make_full _ rfl _ _ 24 rfl w.heap.size 3 i0 _ 1 Try.underlying24 hi0 hz0 hz1 .i64 .i64 _ _ 4 rfl rfl rfl rfl H1.out H2.out (Nat.le_refl _) ?_; intro W hOW hg; have hbW : Below w.heap.size w W := (Below.refl _ _).grown hg (Nat.le_refl _) (by simp); clear hg) | (go_at_call 28; refine (spec_survivors_any _ _ _ _ (by omega) (hR.on hbW)).mono ?_; rintro e w2 ⟨⟨v, rfl, hO2⟩, hb2⟩; obtain ⟨A9, c9, rfl, hO9⟩ := hO2.reads))
  have hne : (Value.slice A9 (survL l).length c9).ownBlock = none ∨ (Value.slice A9 (survL l).length c9).ownBlock ≠ some w.heap.size := by
    have hlt : w.heap.size < W.heap.size := (hOW.lt _ rfl).2
    cases hv : (Value.slice A9 (survL l).length c9).ownBlock with
    | none => exact .inl rfl
    | some q => refine .inr ?_; have h := (OwnG.own_lt hO2 q hv).1; simp; omega
  have HNE := Lib.hid hne
  have HL2 := Lib.hid hO2
  have HRA := Lib.hid hR
  have hB2 : Below w.heap.size w w2 := Below.trans hbW (hb2.mono hbW.size)
  have hO0 : OwnI w2 w.heap.size 3 (.slice (some ⟨w.heap.size, 0, none⟩) 4 4) (agTo l (survL l) 0) := OwnI.on (OwnG.of_row (by simpa [madeCells, cellsI, agTo, Value.cells, List.range_succ] using hOW)) hb2
  clear hOW hbW hO2 hO9 hb2 hne hR
  go_loopw [5, 6] (fun v5 _ wr => ∃ (k : Nat), k ≤ l.length ∧ v5 = .int .i64 k ∧ OwnI wr w.heap.size 3 (.slice (some ⟨w.heap.size, 0, none⟩) 4 4) (agTo l (survL l) k) ∧ w2.grownBy wr (some w.heap.size) ∧ Below w.heap.size w wr) (fun v5 _ _ => l.length - (intOf v5).toNat)
  case atStart => exact ⟨0, Nat.zero_le _, rfl, hO0, World.grownBy.refl _ _, hB2⟩
  case round =>
    clear hO0 hB2
    obtain ⟨k, hk, rfl, hown, hgw, hbw⟩ := hrel
    have HO := Lib.hid hown; clear hown
    have HG := Lib.hid hgw; clear hgw
    have HB := Lib.hid hbw; clear hbw
    have hszr := HB.out.size
    by_cases hlt : k < l.length
    · have HR2 := Lib.hid (HRA.out.on HB.out)
      have HLL := Lib.hid (OwnG.far HL2.out HG.out HNE.out)
      obtain ⟨b, off, rfl, hb, h0, h1, h2⟩ := HR2.out.at_ hlt
      have HSK := Lib.hid (skip_eq (survL l) hlt)
      have HCE := Lib.hid (fun u => cond_eq hlt u)
      cases e1 : (l[k].kind == 0)
      · have HN := Lib.hid (agTo_skip (l := l) (L := survL l) (k := k) (by rw [HSK.out, e1]; rfl))
        have e1' : (l[k].kind != 0) = true := by rw [bne, e1]; rfl
        clear e1
        go_wp2_with fail
        ((first | (with_reducible refine wp_region_from (by with_reducible assumption) follows (by kernel_rfl) ?_) | (refine wp_region_aft follows (by kernel_rfl) ?_)); (repeat (go_big_quiet_step (fail))); refine wpQuiet_nil ?_; intro _ hw'; obtain ⟨⟨w1, hb⟩, rfl⟩ := hw'; (try dsimp only); first | (replace hb := Below.via hb (by with_reducible assumption); (try clear hbc hbf hbz); obtain ⟨hbc, hbf, hbz⟩ := bcell hb) | (obtain ⟨hbc, hbf, hbz⟩ := bcell hb))
        go_wp2
        exact ⟨⟨k + 1, by omega, by go_num, by rw [HN.out]; exact HO.out.on hb, HG.out.trans (grown_of_b hb _), Below.trans HB.out (hb.mono HB.out.size)⟩, by simp [intOf]; omega⟩
      · have e1' : (l[k].kind != 0) = false := by rw [bne, e1]; rfl
        cases e2 : (survL l).contains l[k].tx
        · have HN := Lib.hid (agTo_skip (l := l) (L := survL l) (k := k) (by rw [HSK.out, e1, e2]; rfl))
          have E2 := Lib.hid e2
          clear e1 e2
          go_wp2_with fail
          ((first | (with_reducible refine wp_region_from (by with_reducible assumption) follows (by kernel_rfl) ?_) | (refine wp_region_aft follows (by kernel_rfl) ?_)); (repeat (go_big_quiet_step (first | (go_at_call 56; exact aftb_same (spec_hasInt_any _ _ _ _ _ HML.out (OwnI.rd HLL.out |>.on (After.below _))) (E2.out)) | (go_at_call 55; exact aftb_same (spec_touches_any _ _ l k _ _ _ _ (by omega) HM.out (HR2.out.on (After.below _))) (E3.out))))); refine wpQuiet_nil ?_; intro _ hw'; obtain ⟨⟨w1, hb⟩, rfl⟩ := hw'; (try dsimp only); first | (replace hb := Below.via hb (by with_reducible assumption); (try clear hbc hbf hbz); obtain ⟨hbc, hbf, hbz⟩ := bcell hb) | (obtain ⟨hbc, hbf, hbz⟩ := bcell hb))
          go_wp2
          exact ⟨⟨k + 1, by omega, by go_num, by rw [HN.out]; exact HO.out.on hb, HG.out.trans (grown_of_b hb _), Below.trans HB.out (hb.mono HB.out.size)⟩, by simp [intOf]; omega⟩
        · cases e3 : tchB l k l[k].tx 1 l[k].item
          · have HNN := Lib.hid (agTo_in (l := l) (L := survL l) (k := k) (by rw [HSK.out, e1, e2, e3]; rfl))
            have E2 := Lib.hid e2
            have E3 := Lib.hid e3
            obtain ⟨n, hn, hn3⟩ := valid_num HV.out hlt
            have HNn := Lib.hid hn
            clear e1 e2 e3 hn
            go_wp2_with fail
            ((first | (with_reducible refine wp_region_from (by with_reducible assumption) follows (by kernel_rfl) ?_) | (refine wp_region_aft follows (by kernel_rfl) ?_)); (repeat (go_big_quiet_step (first | (go_at_call 56; exact aftb_same (spec_hasInt_any _ _ _ _ _ HML.out (OwnI.rd HLL.out |>.on (After.below _))) (E2.out)) | (go_at_call 55; exact aftb_same (spec_touches_any _ _ l k _ _ _ _ (by omega) HM.out (HR2.out.on (After.below _))) (E3.out))))); refine wpQuiet_nil ?_; intro _ hw'; obtain ⟨⟨w1, hb⟩, rfl⟩ := hw'; (try dsimp only); first | (replace hb := Below.via hb (by with_reducible assumption); (try clear hbc hbf hbz); obtain ⟨hbc, hbf, hbz⟩ := bcell hb) | (obtain ⟨hbc, hbf, hbz⟩ := bcell hb))
            rename_i w5
            have HO5 := Lib.hid (HO.out.on hb)
            have HG5 := Lib.hid (HG.out.trans (grown_of_b hb _))
            have HB5 := Lib.hid (Below.trans HB.out (hb.mono HB.out.size))
            clear hb
            go_wp2_with fail
            go_loopw [6] (fun v6 wr => ∃ (j : Nat), j ≤ (survL l).length ∧ v6 = .int .i64 j ∧ OwnI wr w.heap.size 3 (.slice (some ⟨w.heap.size, 0, none⟩) 4 4) (agIn l k (survL l) (agTo l (survL l) k) j) ∧ w2.grownBy wr (some w.heap.size) ∧ Below w.heap.size w wr) (fun v6 _ => (survL l).length - (intOf v6).toNat)
            case atStart => exact ⟨0, Nat.zero_le _, rfl, HO5.out, HG5.out, HB5.out⟩
            case round =>
              clear h0 h1 h2
              obtain ⟨j, hj, rfl, hown, hgw, hbw⟩ := hrel
              have HO2 := Lib.hid hown; clear hown
              have HG2 := Lib.hid hgw; clear hgw
              have HB2 := Lib.hid hbw; clear hbw
              by_cases hjl : j < (survL l).length
              · have HR3 := Lib.hid (HRA.out.on HB2.out)
                have HLL2 := Lib.hid (OwnG.far HL2.out HG2.out HNE.out)
                obtain ⟨b3, off3, he3, hb3, q0, q1, q2⟩ := HR3.out.at_ hlt
                injection he3 with he3; injection he3 with he4 he5
                subst he4 he5
                obtain ⟨b2, off2, rfl, hb2, r0⟩ := (OwnI.rd HLL2.out).at_ hjl
                obtain ⟨⟨jc, hjc, hj1, hj2⟩, v, hv, hv3⟩ := HCM.out _ (List.getElem_mem hjl)
                rw [hv] at r0
                have HC3 := Lib.hid (HCE.out (v : Int))
                have HVV := Lib.hid hv
                clear hj1 hj2 hv
                cases e4 : ((v : Int) == l[k].tx)
                · have e4' : ((v : Int) != l[k].tx) = true := by rw [bne, e4]; rfl
                  by_cases hc : firstOf l l[k].tx < comAt l v
                  · have hc' : (firstOf l l[k].tx : Int) < (comAt l v : Int) := by omega
                    cases e6 : tchB l l.length v 1 l[k].item
                    · have HN := Lib.hid (agIn_no (l := l) (i := k) (m := agTo l (survL l) k) hjl (by rw [HVV.out, HC3.out, e6]; simp))
                      have E6 := Lib.hid e6
                      clear e4 e6
                      go_wp2_with fail
                      ((first | (with_reducible refine wp_region_from (by with_reducible assumption) follows (by kernel_rfl) ?_) | (refine wp_region_aft follows (by kernel_rfl) ?_)); (repeat (go_big_quiet_step (first | (go_at_call 45; exact aft_same (spec_commitAt_any _ _ _ _ _ HM.out (HR3.out.on (After.below _)))) | (go_at_call 46; exact aft_same (spec_stampOf_any _ _ _ _ _ HM.out (HR3.out.on (After.below _)))) | (go_at_call 55; exact aftb_same (spec_touches_any _ _ l l.length _ _ _ _ (Nat.le_refl _) HM.out (HR3.out.on (After.below _))) (E6.out))))); refine wpQuiet_nil ?_; intro _ hw'; obtain ⟨⟨w1, hb⟩, rfl⟩ := hw'; (try dsimp only); first | (replace hb := Below.via hb (by with_reducible assumption); (try clear hbc hbf hbz); obtain ⟨hbc, hbf, hbz⟩ := bcell hb) | (obtain ⟨hbc, hbf, hbz⟩ := bcell hb))
                      rename_i w7
                      have hb7 := hb
                      go_wp2
                      exact ⟨⟨j + 1, by omega, by go_num, by rw [HN.out]; exact HO2.out.on hb7, HG2.out.trans (grown_of_b hb7 _), Below.trans HB2.out (hb7.mono HB2.out.size)⟩, by simp [intOf]; omega⟩
                    · have HN := Lib.hid (agIn_yes (l := l) (i := k) (m := agTo l (survL l) k) hjl (by rw [HVV.out, HC3.out, e6, e4]; simp [hc]))
                      have E6 := Lib.hid e6
                      clear e4 e6
                      go_wp2_with fail
                      ((first | (with_reducible refine wp_region_from (by with_reducible assumption) follows (by kernel_rfl) ?_) | (refine wp_region_aft follows (by kernel_rfl) ?_)); (repeat (go_big_quiet_step (first | (go_at_call 45; exact aft_same (spec_commitAt_any _ _ _ _ _ HM.out (HR3.out.on (After.below _)))) | (go_at_call 46; exact aft_same (spec_stampOf_any _ _ _ _ _ HM.out (HR3.out.on (After.below _)))) | (go_at_call 55; exact aftb_same (spec_touches_any _ _ l l.length _ _ _ _ (Nat.le_refl _) HM.out (HR3.out.on (After.below _))) (E6.out))))); refine wpQuiet_nil ?_; intro _ hw'; obtain ⟨⟨w1, hb⟩, rfl⟩ := hw'; (try dsimp only); first | (replace hb := Below.via hb (by with_reducible assumption); (try clear hbc hbf hbz); obtain ⟨hbc, hbf, hbz⟩ := bcell hb) | (obtain ⟨hbc, hbf, hbz⟩ := bcell hb))
                      rename_i w7
                      have hlen : n < (agIn l k (survL l) (agTo l (survL l) k) j).length := by rw [agIn_len, agTo_len]; omega
                      have HO7 := Lib.hid (HO2.out.on hb)
                      have HG7 := Lib.hid (HG2.out.trans (grown_of_b hb _))
                      have HB7 := Lib.hid (Below.trans HB2.out (hb.mono HB2.out.size))
                      obtain ⟨_, c7, c8, c9'⟩ := OwnI.cells HO7.out hlen
                      obtain ⟨b7, off7, he7, hb7, q0', q1', q2'⟩ := (HR3.out.on hb).at_ hlt
                      injection he7 with he7; injection he7 with he8 he9
                      subst he8 he9
                      obtain ⟨b8, off8, he7, hb8, r0'⟩ := (OwnI.rd (HLL2.out.on hb)).at_ hjl
                      injection he7 with he7; injection he7 with he8 he9
                      subst he8 he9
                      rw [HVV.out] at r0'
                      rw [HNn.out] at q0'
                      have hn4 : (n : Int) < 4 := by omega
                      clear hb hbc hbf hbz q0 q1 q2 r0
                      go_wp2_with fail
                      refine wp_region_still_tail 21 (by kernel_rfl) (by kernel_rfl) ?_
                      simp only [List.take_succ_cons, List.take_zero, List.drop_succ_cons, List.drop_zero]
                      repeat still_step
                      still_call ((spec_power_any v _ hv3).mono fun e w'' h => ⟨h.1, h.2.symm⟩)
                      repeat still_step
                      refine wpStill_nil ?_
                      change wpList _ _ _ _ _ w7.drew
                      go_wp2_with fail
                      refine ⟨⟨j + 1, by omega, by go_num, ?_, ag_grown HG7.out, Below.drew (Below.setCell HB7.out (p := ⟨w.heap.size, n, none⟩) (Nat.le_refl _) _)⟩, by simp [intOf]; omega⟩
                      have e : agIn l k (survL l) (agTo l (survL l) k) (j + 1) = (agIn l k (survL l) (agTo l (survL l) k) j).set n (bits .or .i64 (agIn l k (survL l) (agTo l (survL l) k) j)[n] (pwN v)) := by
                        rw [HN.out, txAt_eq hlt, HNn.out, HVV.out]
                        exact agSet_at hlen
                      rw [e]
                      exact OwnG.kept (OwnI.set_ HO7.out (by rw [agIn_len, agTo_len]) n _) (fun _ _ => rfl)
                  · have hc' : ¬ (firstOf l l[k].tx : Int) < (comAt l v : Int) := by omega
                    have HN := Lib.hid (agIn_no (l := l) (i := k) (m := agTo l (survL l) k) hjl (by rw [HVV.out, HC3.out]; simp [hc]))
                    clear e4
                    go_wp2_with fail
                    ((first | (with_reducible refine wp_region_from (by with_reducible assumption) follows (by kernel_rfl) ?_) | (refine wp_region_aft follows (by kernel_rfl) ?_)); (repeat (go_big_quiet_step (first | (go_at_call 45; exact aft_same (spec_commitAt_any _ _ _ _ _ HM.out (HR3.out.on (After.below _)))) | (go_at_call 46; exact aft_same (spec_stampOf_any _ _ _ _ _ HM.out (HR3.out.on (After.below _)))) | (go_at_call 55; exact aftb_same (spec_touches_any _ _ l l.length _ _ _ _ (Nat.le_refl _) HM.out (HR3.out.on (After.below _))) (E6.out))))); refine wpQuiet_nil ?_; intro _ hw'; obtain ⟨⟨w1, hb⟩, rfl⟩ := hw'; (try dsimp only); first | (replace hb := Below.via hb (by with_reducible assumption); (try clear hbc hbf hbz); obtain ⟨hbc, hbf, hbz⟩ := bcell hb) | (obtain ⟨hbc, hbf, hbz⟩ := bcell hb))
                    rename_i w7
                    have hb7 := hb
                    go_wp2
                    exact ⟨⟨j + 1, by omega, by go_num, by rw [HN.out]; exact HO2.out.on hb7, HG2.out.trans (grown_of_b hb7 _), Below.trans HB2.out (hb7.mono HB2.out.size)⟩, by simp [intOf]; omega⟩
                · have e4' : ((v : Int) != l[k].tx) = false := by rw [bne, e4]; rfl
                  have HN := Lib.hid (agIn_no (l := l) (i := k) (m := agTo l (survL l) k) hjl (by rw [HVV.out, HC3.out, e4]; rfl))
                  clear e4
                  go_wp2_with fail
                  ((first | (with_reducible refine wp_region_from (by with_reducible assumption) follows (by kernel_rfl) ?_) | (refine wp_region_aft follows (by kernel_rfl) ?_)); (repeat (go_big_quiet_step (fail))); refine wpQuiet_nil ?_; intro _ hw'; obtain ⟨⟨w1, hb⟩, rfl⟩ := hw'; (try dsimp only); first | (replace hb := Below.via hb (by with_reducible assumption); (try clear hbc hbf hbz); obtain ⟨hbc, hbf, hbz⟩ := bcell hb) | (obtain ⟨hbc, hbf, hbz⟩ := bcell hb))
                  rename_i w7
                  have hb7 := hb
                  go_wp2
                  exact ⟨⟨j + 1, by omega, by go_num, by rw [HN.out]; exact HO2.out.on hb7, HG2.out.trans (grown_of_b hb7 _), Below.trans HB2.out (hb7.mono HB2.out.size)⟩, by simp [intOf]; omega⟩
              · have hj' : j = (survL l).length := by omega
                have HJ := Lib.hid hj'; clear hj'
                go_wp2
                exact ⟨⟨k + 1, by omega, by go_num, by rw [HNN.out]; have h := HO2.out; rw [HJ.out] at h; exact h, HG2.out, HB2.out⟩, by simp [intOf]; omega⟩
          · have HN := Lib.hid (agTo_skip (l := l) (L := survL l) (k := k) (by rw [HSK.out, e1, e2, e3]; rfl))
            have E2 := Lib.hid e2
            have E3 := Lib.hid e3
            clear e1 e2 e3
            go_wp2_with fail
            ((first | (with_reducible refine wp_region_from (by with_reducible assumption) follows (by kernel_rfl) ?_) | (refine wp_region_aft follows (by kernel_rfl) ?_)); (repeat (go_big_quiet_step (first | (go_at_call 56; exact aftb_same (spec_hasInt_any _ _ _ _ _ HML.out (OwnI.rd HLL.out |>.on (After.below _))) (E2.out)) | (go_at_call 55; exact aftb_same (spec_touches_any _ _ l k _ _ _ _ (by omega) HM.out (HR2.out.on (After.below _))) (E3.out))))); refine wpQuiet_nil ?_; intro _ hw'; obtain ⟨⟨w1, hb⟩, rfl⟩ := hw'; (try dsimp only); first | (replace hb := Below.via hb (by with_reducible assumption); (try clear hbc hbf hbz); obtain ⟨hbc, hbf, hbz⟩ := bcell hb) | (obtain ⟨hbc, hbf, hbz⟩ := bcell hb))
            go_wp2
            exact ⟨⟨k + 1, by omega, by go_num, by rw [HN.out]; exact HO.out.on hb, HG.out.trans (grown_of_b hb _), Below.trans HB.out (hb.mono HB.out.size)⟩, by simp [intOf]; omega⟩
    · have hk' : k = l.length := by omega
      have HK := Lib.hid hk'; clear hk'
      go_wp2
      go_ret
      exact ⟨⟨_, rfl, by have h := HO.out; rw [HK.out] at h; exact h⟩, HB.out⟩
end Go.Proofs.Ytafjlklcffbbfaa
