/- The law FnConflictsOf answers true: Each of ConflictsOf is a pair that conflicts, all are there, and CommittedOf has no more of them. No condition. -/
import Derived.Test.YtlcaadjlghbcpaaRows
import Derived.Test.YtlcaadjlghbcpaaSome
import Derived.Test.YtlcaadjlghbcpaaPl
import Derived.Test.YtlcaadjlghbcpaaLawsD
import Derived.Test.YtlcaadjlghbcpaaCfl
import Derived.Test.YtlcaadjlghbcpaaConf
namespace Go.Proofs.Ytlcaadjlghbcpaa.dconflictsOf
set_option linter.unusedSimpArgs false
set_option linter.unusedVariables false
open Go.ChangeShapes Go.WideShapes Go.ChangeAt Go.RowKit
theorem dc_valid {x y : O3} (hx : validB x = true) (hy : validB y = true) : (validB x && (validB y && conflB x y)) = conflB x y := by rw [hx, hy]; simp
set_option maxHeartbeats 4000000 in
theorem walk (A : Option Addr) (c n : Nat) (w : World) (hc : n ≤ c) (hl : n ≤ maxLen) (hR : RdB w w.heap.size A n) :
    Calls Try.prog 13 #[.slice A n c] w fun e w' => e = .returned (.bool true) ∧ Below w.heap.size w w' := by
  have HL := Lib.hid hl
  unfold maxLen at hl
  by_cases hbig : (1048576 : Int) < n
  · go_enter Try.func13, Try.ntmps13
    go_wp2
    go_ret
    exact ⟨rfl, Below.refl _ _⟩
  · go_enter Try.func13, Try.ntmps13
    go_wp2_with fail
    refine (DrawConflictsOf_any A c n _ hc HL.out hR).mono ?_
    rintro e w1 ⟨⟨A1, c1, l, rfl, hl1, hc1, hR1⟩, hb1⟩
    have HM := Lib.hid (show l.length ≤ maxLen by unfold maxLen; omega)
    have HR := Lib.hid hR1; clear hR1
    have HC := Lib.hid hc1; clear hc1
    go_wp2_with fail
    refine (impl_ConflictsOf_any _ _ _ _ (by omega) HC.out HR.out).mono ?_
    rintro e w2 ⟨⟨v2, rn, rfl, hO2, hps⟩, hb2⟩
    have R2 := Lib.hid (HR.out.on hb2)
    go_wp2_with fail
    refine (spec_ConflictsOf_any _ _ _ _ (by omega) HC.out R2.out).mono ?_
    rintro e w3 ⟨⟨v3, rn3, rfl, hO3, hps3⟩, hb3⟩
    have R3 := Lib.hid (R2.out.on hb3)
    have hO23 := hO2.on hb3
    have B3 := Lib.hid (show Below w.heap.size w w3 by (repeat' (first | (with_reducible exact Below.refl _ _) | (with_reducible assumption) | (with_reducible refine Below.al ?_ _) | (with_reducible refine Below.drew ?_) | (with_reducible refine Below.drN ?_ _) | (with_reducible refine Below.via (by with_reducible assumption) ?_) | (with_reducible refine Below.setc ?_ ?_ _) | (with_reducible exact Nat.le_refl _) | (simp; done) | (simp; omega))))
    obtain ⟨A2, c2, rfl⟩ : ∃ A c, v2 = .slice A rn.length c := by obtain ⟨A, c, e, _⟩ := OwnG.clip hO2.own; exact ⟨A, c, e⟩
    obtain ⟨A3, c3, rfl⟩ : ∃ A c, v3 = .slice A rn3.length c := by obtain ⟨A, c, e, _⟩ := OwnG.clip hO3.own; exact ⟨A, c, e⟩
    have hcl : rn.length ≤ 1000 := by have := cfsV_le l; rw [← hps, List.length_map] at this; exact this
    have O3 := Lib.hid hO3
    have O2 := Lib.hid hO23
    have HE := Lib.hid (hps.trans hps3.symm)
    clear hb1 hb2 hb3 hO2 hO3 hO23 hps3
    go_wp2_with fail
    refine (equalLists_any A2 A3 c2 c3 _ _ rn rn3 _ (by omega) O2.out O3.out HE.out).mono ?_
    rintro e w4 ⟨rfl, hb4⟩
    have B4 := Lib.hid (show Below w.heap.size w w4 by have h3 := B3.out; (repeat' (first | (with_reducible exact Below.refl _ _) | (with_reducible assumption) | (with_reducible refine Below.al ?_ _) | (with_reducible refine Below.drew ?_) | (with_reducible refine Below.drN ?_ _) | (with_reducible refine Below.via (by with_reducible assumption) ?_) | (with_reducible refine Below.setc ?_ ?_ _) | (with_reducible exact Nat.le_refl _) | (simp; done) | (simp; omega))))
    have R4 := Lib.hid (R3.out.on hb4)
    have O4 := Lib.hid (O2.out.on hb4)
    clear hb4 O2 O3 R3 B3
    cases hv : tt (ValidP l)
    · have HV := Lib.hid hv; clear hv
      have HPS := Lib.hid hps; clear hps
      go_wp2_with fail
      refine (impl_ValidSchedule_any _ _ _ _ HM.out HC.out R4.out).mono ?_
      rintro e w5 ⟨rfl, hb5⟩
      rw [HV.out]
      go_wp2_with fail
      refine (spec_ConflictsOf_any _ _ _ _ (by omega) HC.out (R4.out.on hb5)).mono ?_
      rintro e w6 ⟨⟨v6, rn6, rfl, hO6, hps6⟩, hb6⟩
      obtain ⟨A6, c6, rfl⟩ : ∃ A c, v6 = .slice A rn6.length c := by obtain ⟨A, c, e, _⟩ := OwnG.clip hO6.own; exact ⟨A, c, e⟩
      go_wp2_with fail
      refine (equalLists_any A2 A6 c2 c6 _ _ rn rn6 _ (by omega) ((O4.out.on hb5).on hb6) hO6 (HPS.out.trans hps6.symm)).mono ?_
      rintro e w7 ⟨rfl, hb7⟩
      have h4 := B4.out
      go_wp2
      go_ret
      exact ⟨rfl, by (repeat' (first | (with_reducible exact Below.refl _ _) | (with_reducible assumption) | (with_reducible refine Below.al ?_ _) | (with_reducible refine Below.drew ?_) | (with_reducible refine Below.drN ?_ _) | (with_reducible refine Below.via (by with_reducible assumption) ?_) | (with_reducible refine Below.setc ?_ ?_ _) | (with_reducible exact Nat.le_refl _) | (simp; done) | (simp; omega)))⟩
    · have HV := Lib.hid hv
      have hP : ValidP l := tt_eq.1 hv
      have hcv : cfsV l = cfsL l := by unfold cfsV; rw [hv]; rfl
      have HPS := Lib.hid (hps.trans hcv)
      have HLN := Lib.hid (show (cfsL l).length = rn.length by rw [← HPS.out, List.length_map])
      have hccl := comL_len l
      have HCE := Lib.hid (show comV l = comL l by unfold comV; rw [hv]; rfl)
      have HCN := Lib.hid (show (cfsV (comL l)).length ≤ rn.length by unfold cfsV; rw [tt_true (com_valid hP), if_pos rfl, ← HLN.out]; exact cfs_com l)
      clear hv hps hcv
      go_wp2_with fail
      refine (impl_ValidSchedule_any _ _ _ _ HM.out HC.out R4.out).mono ?_
      rintro e w5 ⟨rfl, hb5⟩
      rw [HV.out]
      have B5 := Lib.hid (show Below w.heap.size w w5 by have h3 := B4.out; (repeat' (first | (with_reducible exact Below.refl _ _) | (with_reducible assumption) | (with_reducible refine Below.al ?_ _) | (with_reducible refine Below.drew ?_) | (with_reducible refine Below.drN ?_ _) | (with_reducible refine Below.via (by with_reducible assumption) ?_) | (with_reducible refine Below.setc ?_ ?_ _) | (with_reducible exact Nat.le_refl _) | (simp; done) | (simp; omega))))
      have R5 := Lib.hid (R4.out.on hb5)
      have O5 := Lib.hid (O4.out.on hb5)
      clear hb5 R4 O4 B4
      go_wp2_with fail
      go_loopw [5, 6] (fun m v6 wr => ∃ i : Nat, i ≤ l.length ∧ v6 = .int .i64 i ∧ m = .int .i64 (allP l i).length ∧ Below w5.heap.size w5 wr) (fun _ v6 _ => l.length - (intOf v6).toNat)
      case atStart => exact ⟨0, Nat.zero_le _, rfl, rfl, Below.refl _ _⟩
      case round =>
        obtain ⟨i, hi, rfl, rfl, hbw⟩ := hrel
        have HB := Lib.hid hbw; clear hbw
        have hap := allP_le l hl1 i
        by_cases hlt : i < l.length
        · obtain ⟨wo, hwo⟩ : ∃ wo : World, wo = wr := ⟨_, rfl⟩
          subst hwo
          go_wp2_with fail
          go_loopw [5, 7] (fun m v7 wr => ∃ j : Nat, i + 1 ≤ j ∧ j ≤ l.length ∧ v7 = .int .i64 j ∧ m = .int .i64 (cfsTo l i j).length ∧ Below w5.heap.size w5 wr) (fun _ v7 _ => l.length - (intOf v7).toNat)
          case atStart => exact ⟨i + 1, Nat.le_refl _, by omega, by go_num, by rw [cfsTo_start], HB.out⟩
          case round =>
            obtain ⟨j, hij, hj, rfl, rfl, hbw⟩ := hrel
            have HB2 := Lib.hid hbw; clear hbw
            have hle := cfsTo_le l hl1 i j (by omega) (by omega)
            by_cases hjl : j < l.length
            · have R6 := Lib.hid (R5.out.on HB2.out)
              obtain ⟨b, off, he0, hb0, q0, q1, q2⟩ := R6.out.at_ hlt
              subst he0
              obtain ⟨b', off', he, hb', s0, s1, s2⟩ := R6.out.at_ hjl
              injection he with he; injection he with he1 he2
              subst he1 he2
              cases hcf : conflB l[i] l[j]
              all_goals have HCF := (dc_valid (valid_all hP hlt) (valid_all hP hjl)).trans hcf
              · have HN := Lib.hid (cfsTo_no (k := j) ((cfAt_eq hlt hjl).trans hcf))
                clear hcf
                go_wp2_with fail
                ((first | (with_reducible refine wp_region_from (by with_reducible assumption) follows (by kernel_rfl) ?_) | (refine wp_region_aft follows (by kernel_rfl) ?_)); (repeat (go_big_quiet_step ((go_at_call 16; exact aftb (impl_DoConflict_any _ _ _ _ _ _ _) (HCF))))); refine wpQuiet_nil ?_; intro _ hw'; obtain ⟨⟨w1, hb⟩, rfl⟩ := hw'; (try dsimp only); first | (replace hb := Below.via hb (by with_reducible assumption); (try clear hbc hbf hbz); obtain ⟨hbc, hbf, hbz⟩ := bcell hb) | (obtain ⟨hbc, hbf, hbz⟩ := bcell hb))
                go_wp2
                exact ⟨⟨j + 1, by omega, by omega, by go_num, by rw [HN.out], by have hbw := HB2.out; (repeat' (first | (with_reducible exact Below.refl _ _) | (with_reducible assumption) | (with_reducible refine Below.al ?_ _) | (with_reducible refine Below.drew ?_) | (with_reducible refine Below.drN ?_ _) | (with_reducible refine Below.via (by with_reducible assumption) ?_) | (with_reducible refine Below.setc ?_ ?_ _) | (with_reducible exact Nat.le_refl _) | (simp; done) | (simp; omega)))⟩, by simp [intOf]; omega⟩
              · have HY := Lib.hid (cfsTo_yes (by omega : i < j) ((cfAt_eq hlt hjl).trans hcf))
                have hget := cfs_get (by omega : i < j) hjl ((cfAt_eq hlt hjl).trans hcf)
                rw [← HPS.out] at hget
                obtain ⟨hgl, hge⟩ := List.getElem?_eq_some_iff.1 hget
                rw [List.length_map] at hgl
                rw [List.getElem_map] at hge
                clear hcf hget
                go_wp2_with fail
                ((first | (with_reducible refine wp_region_from (by with_reducible assumption) follows (by kernel_rfl) ?_) | (refine wp_region_aft follows (by kernel_rfl) ?_)); (repeat (go_big_quiet_step ((go_at_call 16; exact aftb (impl_DoConflict_any _ _ _ _ _ _ _) (HCF))))); refine wpQuiet_nil ?_; intro _ hw'; obtain ⟨⟨w1, hb⟩, rfl⟩ := hw'; (try dsimp only); first | (replace hb := Below.via hb (by with_reducible assumption); (try clear hbc hbf hbz); obtain ⟨hbc, hbf, hbz⟩ := bcell hb) | (obtain ⟨hbc, hbf, hbz⟩ := bcell hb))
                rename_i wq
                have BQ := Lib.hid (show Below w5.heap.size w5 wq by have hbw := HB2.out; (repeat' (first | (with_reducible exact Below.refl _ _) | (with_reducible assumption) | (with_reducible refine Below.al ?_ _) | (with_reducible refine Below.drew ?_) | (with_reducible refine Below.drN ?_ _) | (with_reducible refine Below.via (by with_reducible assumption) ?_) | (with_reducible refine Below.setc ?_ ?_ _) | (with_reducible exact Nat.le_refl _) | (simp; done) | (simp; omega))))
                clear hb hbc hbf hbz
                obtain ⟨g, hg0, hgz, hgc, hgR⟩ := (O5.out.on BQ.out).at_ hgl
                subst hg0
                rw [hge] at hgR
                have PQ := Lib.hid (RdI.on hgR (show Below wq.heap.size wq (wq.alloc (.cells (cellsI [(i : Int), (j : Int)]).toArray 3)) by (repeat' (first | (with_reducible exact Below.refl _ _) | (with_reducible assumption) | (with_reducible refine Below.al ?_ _) | (with_reducible refine Below.drew ?_) | (with_reducible refine Below.drN ?_ _) | (with_reducible refine Below.via (by with_reducible assumption) ?_) | (with_reducible refine Below.setc ?_ ?_ _) | (with_reducible exact Nat.le_refl _) | (simp; done) | (simp; omega)))))
                unfold rowV at hgc
                clear hgR
                have hnl : ¬ rn.length ≤ (cfsTo l i j).length := by omega
                go_wp2_with fail
                refine (equalInts_any _ _ _ _ [(i : Int), (j : Int)] _ (by simp) PQ.out (lit_at _ _ _ (by simp))).mono ?_
                rintro e w9 ⟨rfl, hb9⟩
                go_wp2_with fail
                exact ⟨⟨j + 1, by omega, by omega, by go_num, by rw [HY.out, List.length_append]; go_num, by have hbw := BQ.out; (repeat' (first | (with_reducible exact Below.refl _ _) | (with_reducible assumption) | (with_reducible refine Below.al ?_ _) | (with_reducible refine Below.drew ?_) | (with_reducible refine Below.drN ?_ _) | (with_reducible refine Below.via (by with_reducible assumption) ?_) | (with_reducible refine Below.setc ?_ ?_ _) | (with_reducible exact Nat.le_refl _) | (simp; done) | (simp; omega)))⟩, by simp [intOf]; omega⟩
            · have hj' : j = l.length := by omega
              subst hj'
              go_wp2_with fail
              exact ⟨⟨i + 1, by omega, by go_num, rfl, HB2.out⟩, by simp [intOf]; omega⟩
        · have hi' : i = l.length := by omega
          have hnn : (allP l i).length = rn.length := by rw [hi']; exact HLN.out
          rw [hnn]
          clear hi' hap
          go_wp2_with fail
          refine (impl_CommittedOf_any _ _ l _ (by omega) HC.out (R5.out.on HB.out)).mono ?_
          rintro e w7 ⟨⟨v7, rfl, hO7⟩, hb7⟩
          rw [HCE.out] at hO7
          obtain ⟨A7, c7, rfl, ⟨hc7, hm7⟩, hR7, _⟩ := hO7.reads
          go_wp2_with fail
          refine (impl_ConflictsOf_any _ _ (comL l) _ (by omega) hc7 hR7).mono ?_
          rintro e w8 ⟨⟨v8, rn8, rfl, hO8, hps8⟩, hb8⟩
          obtain ⟨A8, c8, rfl⟩ : ∃ A c, v8 = .slice A rn8.length c := by obtain ⟨A, c, e, _⟩ := OwnG.clip hO8.own; exact ⟨A, c, e⟩
          have hcn : rn8.length ≤ rn.length := by have := HCN.out; rw [← hps8, List.length_map] at this; exact this
          have h5 := B5.out
          have hbw := HB.out
          have h6 : Below w.heap.size w wr := Below.via hbw h5
          go_wp2
          go_ret
          exact ⟨rfl, by (repeat' (first | (with_reducible exact Below.refl _ _) | (with_reducible assumption) | (with_reducible refine Below.al ?_ _) | (with_reducible refine Below.drew ?_) | (with_reducible refine Below.drN ?_ _) | (with_reducible refine Below.via (by with_reducible assumption) ?_) | (with_reducible refine Below.setc ?_ ?_ _) | (with_reducible exact Nat.le_refl _) | (simp; done) | (simp; omega)))⟩
theorem own : ownKnob Try.prog.godebug = none := by kernel_rfl
theorem laidOut : laidOutB Try.prog = true := by kernel_rfl
set_option maxRecDepth 100000 in
theorem lifted (os : Os) (started : os.Started) (H : Type) (enc : TypeId × Value → H) :
    ReturnsInHanded {} Try.checked os 13 .any (Rows.fnConflictsOfSpec.pre6 enc Try.prog Try.f13 Rows.fnConflictsOfRow.domain false) (Rows.fnConflictsOfSpec.post enc Try.prog Try.f13 false true false false) := by
  refine returnsInHanded_of_change (C := Try.checked) own started (by kernel_rfl) Try.func13
    (ChangeSpec.witness6 (enc := enc) (C := Try.checked) false ⟨#[], #[.slice none 0 0], []⟩ 8 (by kernel_rfl) (by kernel_rfl) (by kernel_rfl) (by kernel_rfl)) ?_
  intro W base args ds gs before hval0 hW hcnd _
  have hval : ∀ (j : Nat) t v, Try.f13.params[j]? = some t → args[j]? = some v → Value.okWide Try.prog W .any base t v := hval0
  have hW' := hW
  obtain ⟨p, q, hA0, hV, rfl, hfz, hnd⟩ := hW
  have hA : DataW.TrodAll enc Try.prog W 0 (fun _ => true) true Try.f13.params.toList args.toList ds p := hA0
  rw [Try.params13] at hA hval
  obtain ⟨v0, vs0, d0, ds0, p0, q0, hargs, rfl, rfl, h0, r0⟩ := trodAll_cons hA
  obtain ⟨rfl, rfl, rfl⟩ := trodAll_nil r0
  obtain rfl : args = #[v0] := by cases args; simp_all
  obtain ⟨rfl, rfl⟩ := trodVars_none hV
  have k0 := h0
  have lt0 : ∀ x ∈ p0, x.block < W.heap.size := by obtain ⟨m, hm⟩ := k0; exact DataW.trod_lt m _ _ _ hm
  obtain ⟨A0, c0, n0, rfl, hc0, hl0, hR0⟩ := open_bytes Try.underlying22 Try.underlying5 (by kernel_rfl) (hval 0 22 v0 rfl rfl) h0
  clear hA0 hval0
  refine (walk A0 c0 n0 W hc0 hl0 hR0).mono fun e W' ⟨he, bel⟩ => ?_
  subst he
  exact ⟨_, rfl, _, _, _, [], _, [], hW', trodAll_mk1 (shut_bool Try.underlying4 _), (trodAll_cons_mk (Below.trod laidOut (by kernel_rfl) (of_decide_eq_true (by kernel_rfl)) k0 bel lt0) trodAll_mk0), rfl, bel.frame _, fun h => by cases h⟩
theorem holds : Rows.FnConflictsOfSaid :=
  OpenClaim.holds_of_wide 13 Try.f13 rfl rfl rfl rfl rfl rfl rfl ⟨rfl, rfl, rfl, rfl, rfl⟩ rfl rfl rfl rfl rfl (by kernel_rfl) Try.func13 (by kernel_rfl)
    (of_decide_eq_true (by kernel_rfl)) (by unfold Func.isWrapper; rw [if_neg (of_decide_eq_false (by kernel_rfl))]; exact ⟨rfl, rfl⟩)
    (fun os started H enc _ => lifted os started H enc)
#print axioms holds
end Go.Proofs.Ytlcaadjlghbcpaa.dconflictsOf
