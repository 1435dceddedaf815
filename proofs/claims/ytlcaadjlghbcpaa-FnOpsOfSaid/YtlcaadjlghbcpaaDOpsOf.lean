/- The law FnOpsOf answers true: OpsOf is a schedule, serial, of that transaction alone, and none conflict. No condition. -/
import Derived.Test.YtlcaadjlghbcpaaRows
import Derived.Test.YtlcaadjlghbcpaaSome
import Derived.Test.YtlcaadjlghbcpaaPl
import Derived.Test.YtlcaadjlghbcpaaLawsD
import Derived.Test.YtlcaadjlghbcpaaSerial
namespace Go.Proofs.Ytlcaadjlghbcpaa.dopsOf
set_option linter.unusedSimpArgs false
set_option linter.unusedVariables false
open Go.ChangeShapes Go.WideShapes Go.ChangeAt Go.RowKit
set_option maxHeartbeats 400000 in
theorem Clip_R_any (A : Option Addr) (n c : Nat) (w : World) (hn : n ≤ c) :
    Calls Try.prog 78 #[.slice A n c] w fun e w' => e = .returned (.slice A n n) ∧ w = w' := by
  go_enter Try.func78, Try.ntmps78
  go_wp2
  go_ret
  exact ⟨rfl, rfl⟩
set_option maxHeartbeats 1000000 in
theorem ConflictsOf_none (A : Option Addr) (c : Nat) (l : List O3) (w : World) (hP : ValidP l) (hc : l.length ≤ c) (hR : RdO w w.heap.size A l) (hn : ∀ i k (hi : i < l.length) (hk : k < l.length), conflB l[i] l[k] = false) :
    Calls Try.prog 37 #[.slice A l.length c] w fun e w' => (∃ A' c', e = .returned (.slice A' 0 c')) ∧ Below w.heap.size w w' := by
  have hl := hP.1
  have HM := Lib.hid (show l.length ≤ maxLen by unfold maxLen; omega)
  have HV := Lib.hid (show tt (ValidP l) = true from tt_true hP)
  go_enter Try.func37, Try.ntmps37
  go_wp2_with fail
  refine (impl_ValidSchedule_any _ _ _ _ HM.out hc hR).mono ?_
  rintro e w1 ⟨rfl, hb1⟩
  rw [HV.out]
  have R1 := Lib.hid (hR.on hb1)
  have B0 := Lib.hid (show Below w.heap.size w (w1.alloc (.cells #[] 38)) by (repeat' (first | (with_reducible exact Below.refl _ _) | (with_reducible assumption) | (with_reducible refine Below.al ?_ _) | (with_reducible refine Below.drew ?_) | (with_reducible refine Below.drN ?_ _) | (with_reducible refine Below.via (by with_reducible assumption) ?_) | (with_reducible refine Below.setc ?_ ?_ _) | (with_reducible exact Nat.le_refl _) | (simp; done) | (simp; omega))))
  clear hb1
  go_wp2_with fail
  go_loopw [3, 13] (fun v3 v13 wr => ∃ k : Nat, k ≤ l.length ∧ v13 = .int .i64 k ∧ v3 = .slice (some ⟨w1.heap.size, 0, none⟩) 0 0 ∧ Below w.heap.size w wr ∧ RdO wr wr.heap.size A l) (fun _ v13 _ => l.length - (intOf v13).toNat)
  case atStart => exact ⟨0, Nat.zero_le _, rfl, rfl, B0.out, R1.out.on (by (repeat' (first | (with_reducible exact Below.refl _ _) | (with_reducible assumption) | (with_reducible refine Below.al ?_ _) | (with_reducible refine Below.drew ?_) | (with_reducible refine Below.drN ?_ _) | (with_reducible refine Below.via (by with_reducible assumption) ?_) | (with_reducible refine Below.setc ?_ ?_ _) | (with_reducible exact Nat.le_refl _) | (simp; done) | (simp; omega))))⟩
  case round =>
    clear B0 R1
    obtain ⟨k, hk, rfl, rfl, hbw, hRw⟩ := hrel
    have HB := Lib.hid hbw; clear hbw
    have HR := Lib.hid hRw; clear hRw
    by_cases hlt : k < l.length
    · obtain ⟨b, off, rfl, hb, q0, q1, q2⟩ := HR.out.at_ hlt
      have BX := Lib.hid (Bx3.made wr 24 l[k].tx l[k].kind l[k].item)
      have R2 := Lib.hid (HR.out.on (show Below wr.heap.size wr (wr.alloc (.cells #[.int .i64 l[k].tx, .int .i64 l[k].kind, .int .i64 l[k].item] 24)) by (repeat' (first | (with_reducible exact Below.refl _ _) | (with_reducible assumption) | (with_reducible refine Below.al ?_ _) | (with_reducible refine Below.drew ?_) | (with_reducible refine Below.drN ?_ _) | (with_reducible refine Below.via (by with_reducible assumption) ?_) | (with_reducible refine Below.setc ?_ ?_ _) | (with_reducible exact Nat.le_refl _) | (simp; done) | (simp; omega)))))
      obtain ⟨wo, hwo⟩ : ∃ wo : World, wo = wr := ⟨_, rfl⟩
      subst hwo
      have BW := Lib.hid (show Below w.heap.size w (wo.alloc (.cells #[.int .i64 l[k].tx, .int .i64 l[k].kind, .int .i64 l[k].item] 24)) by have hbw := HB.out; (repeat' (first | (with_reducible exact Below.refl _ _) | (with_reducible assumption) | (with_reducible refine Below.al ?_ _) | (with_reducible refine Below.drew ?_) | (with_reducible refine Below.drN ?_ _) | (with_reducible refine Below.via (by with_reducible assumption) ?_) | (with_reducible refine Below.setc ?_ ?_ _) | (with_reducible exact Nat.le_refl _) | (simp; done) | (simp; omega))))
      go_wp2_with fail
      go_loopw [3, 6] (fun v3 v6 wr => ∃ j : Nat, k + 1 ≤ j ∧ j ≤ l.length ∧ v6 = .int .i64 j ∧ v3 = .slice (some ⟨w1.heap.size, 0, none⟩) 0 0 ∧ Below w.heap.size w wr ∧ RdO wr wr.heap.size (some ⟨b, off, none⟩) l ∧ Bx3 wr wo.heap.size 24 l[k].tx l[k].kind l[k].item) (fun _ v6 _ => l.length - (intOf v6).toNat)
      case atStart => exact ⟨k + 1, Nat.le_refl _, by omega, by go_num, rfl, BW.out, R2.out, BX.out⟩
      case round =>
        clear BW BX R2
        obtain ⟨j, hkj, hj, rfl, rfl, hbw, hRw, hBx⟩ := hrel
        have HB2 := Lib.hid hbw; clear hbw
        have HR2 := Lib.hid hRw; clear hRw
        have HX2 := Lib.hid hBx; clear hBx
        obtain ⟨a0, a1, a2, a3, a4, a5, a6⟩ := HX2.out.at_
        by_cases hjl : j < l.length
        · obtain ⟨b', off', he, hb', s0, s1, s2⟩ := HR2.out.at_ hjl
          injection he with he; injection he with he1 he2
          subst he1 he2
          have HN := hn k j hlt hjl
          go_wp2_with fail
          ((first | (with_reducible refine wp_region_from (by with_reducible assumption) follows (by kernel_rfl) ?_) | (refine wp_region_aft follows (by kernel_rfl) ?_)); (repeat (go_big_quiet_step ((go_at_call 62; exact aftb (impl_conflicts_any _ _ _ _ _ _ _) (HN))))); refine wpQuiet_nil ?_; intro _ hw'; obtain ⟨⟨w1, hb⟩, rfl⟩ := hw'; (try dsimp only); first | (replace hb := Below.via hb (by with_reducible assumption); (try clear hbc hbf hbz); obtain ⟨hbc, hbf, hbz⟩ := bcell hb) | (obtain ⟨hbc, hbf, hbz⟩ := bcell hb))
          go_wp2
          exact ⟨⟨j + 1, by omega, by omega, by go_num, rfl, by have hbw := HB2.out; (repeat' (first | (with_reducible exact Below.refl _ _) | (with_reducible assumption) | (with_reducible refine Below.al ?_ _) | (with_reducible refine Below.drew ?_) | (with_reducible refine Below.drN ?_ _) | (with_reducible refine Below.via (by with_reducible assumption) ?_) | (with_reducible refine Below.setc ?_ ?_ _) | (with_reducible exact Nat.le_refl _) | (simp; done) | (simp; omega))), HR2.out.on hb, HX2.out.be hb⟩, by simp [intOf]; omega⟩
        · have hj' : j = l.length := by omega
          have HJ := Lib.hid hj'; clear hj'
          go_wp2_with fail
          exact ⟨⟨k + 1, by omega, by go_num, rfl, HB2.out, HR2.out⟩, by simp [intOf]; omega⟩
    · go_wp2_with fail
      refine (Clip_R_any _ 0 0 _ (Nat.le_refl 0)).mono ?_
      rintro e w6 ⟨rfl, rfl⟩
      go_wp2
      go_ret
      exact ⟨⟨_, _, rfl⟩, HB.out⟩
theorem ser_one {l : List O3} {t : Int} (h : ∀ i (hi : i < l.length), l[i].tx = t) : SerP l := by
  rintro m ⟨hm, hne, _⟩
  exact hne ((h (m + 1) hm).trans (h m (by omega)).symm)
set_option maxHeartbeats 4000000 in
theorem walk (A : Option Addr) (c n : Nat) (w : World) (hc : n ≤ c) (hl : n ≤ maxLen) (hR : RdB w w.heap.size A n) :
    Calls Try.prog 8 #[.slice A n c] w fun e w' => e = .returned (.bool true) ∧ Below w.heap.size w w' := by
  have HL := Lib.hid hl
  unfold maxLen at hl
  by_cases hbig : (1048576 : Int) < n
  · go_enter Try.func8, Try.ntmps8
    go_wp2
    go_ret
    exact ⟨rfl, Below.refl _ _⟩
  · go_enter Try.func8, Try.ntmps8
    go_wp2_with fail
    refine (DrawOpsOf_any A c n _ hc HL.out hR).mono ?_
    rintro e w1 ⟨⟨A1, c1, l, t, rfl, hl1, hc1, hR1⟩, hb1⟩
    have HM := Lib.hid (show l.length ≤ maxLen by unfold maxLen; omega)
    have HR := Lib.hid hR1; clear hR1
    have HC := Lib.hid hc1; clear hc1
    go_wp2_with fail
    refine (impl_OpsOf_any _ _ _ _ _ (by omega) HC.out HR.out).mono ?_
    rintro e w2 ⟨⟨v2, rfl, hO2⟩, hb2⟩
    have R2 := Lib.hid (HR.out.on hb2)
    go_wp2_with fail
    refine (spec_OpsOf_any _ _ _ _ _ (by omega) HC.out R2.out).mono ?_
    rintro e w3 ⟨⟨v3, rfl, hO3⟩, hb3⟩
    have R3 := Lib.hid (R2.out.on hb3)
    have O2 := Lib.hid (hO2.on hb3)
    have B3 := Lib.hid (show Below w.heap.size w w3 by (repeat' (first | (with_reducible exact Below.refl _ _) | (with_reducible assumption) | (with_reducible refine Below.al ?_ _) | (with_reducible refine Below.drew ?_) | (with_reducible refine Below.drN ?_ _) | (with_reducible refine Below.via (by with_reducible assumption) ?_) | (with_reducible refine Below.setc ?_ ?_ _) | (with_reducible exact Nat.le_refl _) | (simp; done) | (simp; omega))))
    obtain ⟨A2, c2, rfl, ⟨hc2, hm2⟩, _, _⟩ := hO2.reads
    obtain ⟨A3, c3, rfl, _, hR3', _⟩ := hO3.reads
    have hcl := opsV_len l t (by omega)
    clear hb1 hb2 hb3 hO2 hO3
    go_wp2_with fail
    refine (equalOps_any A2 A3 c2 c3 (opsV l t) _ hcl O2.out.rd hR3').mono ?_
    rintro e w4 ⟨rfl, hb4⟩
    have B4 := Lib.hid (show Below w.heap.size w w4 by have h3 := B3.out; (repeat' (first | (with_reducible exact Below.refl _ _) | (with_reducible assumption) | (with_reducible refine Below.al ?_ _) | (with_reducible refine Below.drew ?_) | (with_reducible refine Below.drN ?_ _) | (with_reducible refine Below.via (by with_reducible assumption) ?_) | (with_reducible refine Below.setc ?_ ?_ _) | (with_reducible exact Nat.le_refl _) | (simp; done) | (simp; omega))))
    have R4 := Lib.hid (R3.out.on hb4)
    have O4 := Lib.hid (O2.out.on hb4)
    clear hb4 hR3' O2 R3 B3
    cases hv : tt (ValidP l)
    · have HV := Lib.hid hv; clear hv
      go_wp2_with fail
      refine (impl_ValidSchedule_any _ _ _ _ HM.out HC.out R4.out).mono ?_
      rintro e w5 ⟨rfl, hb5⟩
      rw [HV.out]
      go_wp2_with fail
      refine (spec_OpsOf_any _ _ _ _ _ (by omega) HC.out (R4.out.on hb5)).mono ?_
      rintro e w6 ⟨⟨v6, rfl, hO6⟩, hb6⟩
      obtain ⟨A6, c6, rfl, _, hR6, _⟩ := hO6.reads
      go_wp2_with fail
      refine (equalOps_any A2 A6 c2 c6 (opsV l t) _ hcl ((O4.out.on hb5).on hb6).rd hR6).mono ?_
      rintro e w7 ⟨rfl, hb7⟩
      have h4 := B4.out
      go_wp2
      go_ret
      exact ⟨rfl, by (repeat' (first | (with_reducible exact Below.refl _ _) | (with_reducible assumption) | (with_reducible refine Below.al ?_ _) | (with_reducible refine Below.drew ?_) | (with_reducible refine Below.drN ?_ _) | (with_reducible refine Below.via (by with_reducible assumption) ?_) | (with_reducible refine Below.setc ?_ ?_ _) | (with_reducible exact Nat.le_refl _) | (simp; done) | (simp; omega)))⟩
    · have HV := Lib.hid hv
      have hP : ValidP l := tt_eq.1 hv
      clear hv
      have hov : opsV l t = l.filter (fun o => o.tx == t) := by unfold opsV; rw [HV.out]; rfl
      obtain ⟨L, hL⟩ : ∃ L, L = l.filter (fun o => o.tx == t) := ⟨_, rfl⟩
      have hPL : ValidP L := by rw [hL]; exact valid_filter hP _
      have htx : ∀ i (hi : i < L.length), L[i].tx = t := by
        subst hL
        intro i hi
        have := (List.mem_filter.1 (List.getElem_mem hi)).2
        simpa using this
      rw [hov, ← hL] at O4 hm2 hc2 hcl ⊢
      clear hov hL
      have HVL := Lib.hid (show tt (ValidP L) = true from tt_true hPL)
      have HSL := Lib.hid (show tt (SerP L) = true from tt_true (ser_one htx))
      have HNC := Lib.hid (show ∀ i k (hi : i < L.length) (hk : k < L.length), conflB L[i] L[k] = false from fun i k hi hk => by unfold conflB; rw [htx i hi, htx k hk]; simp)
      have HTX := Lib.hid htx
      have hL16 := hPL.1
      have HPL := Lib.hid hPL
      clear htx hPL
      go_wp2_with fail
      refine (impl_ValidSchedule_any _ _ _ _ HM.out HC.out R4.out).mono ?_
      rintro e w5 ⟨rfl, hb5⟩
      rw [HV.out]
      have B5 := Lib.hid (show Below w.heap.size w w5 by have h3 := B4.out; (repeat' (first | (with_reducible exact Below.refl _ _) | (with_reducible assumption) | (with_reducible refine Below.al ?_ _) | (with_reducible refine Below.drew ?_) | (with_reducible refine Below.drN ?_ _) | (with_reducible refine Below.via (by with_reducible assumption) ?_) | (with_reducible refine Below.setc ?_ ?_ _) | (with_reducible exact Nat.le_refl _) | (simp; done) | (simp; omega))))
      have O5 := Lib.hid (O4.out.on hb5)
      clear hb5 R4 O4 B4
      go_wp2_with fail
      go_loopw [6] (fun i wr => ∃ k : Nat, k ≤ L.length ∧ i = .int .i64 k ∧ wr = w5) (fun i _ => L.length - (intOf i).toNat)
      case atStart => exact ⟨0, Nat.zero_le _, rfl, rfl⟩
      case round =>
        obtain ⟨k, hk, rfl, rfl⟩ := hrel
        by_cases hlt : k < L.length
        · obtain ⟨b, off, rfl, hb, q0, q1, q2⟩ := O5.out.rd.at_ hlt
          rw [HTX.out k hlt] at q0
          go_wp2_with fail
          exact ⟨⟨k + 1, by omega, by go_num, by trivial⟩, by simp [intOf]; omega⟩
        · go_wp2_with fail
          refine (impl_ValidSchedule_any _ _ L _ hm2 hc2 O5.out.rd).mono ?_
          rintro e w6 ⟨rfl, hb6⟩
          rw [HVL.out]
          have O6 := Lib.hid (O5.out.on hb6)
          have B6 := Lib.hid (show Below w.heap.size w w6 by have h3 := B5.out; (repeat' (first | (with_reducible exact Below.refl _ _) | (with_reducible assumption) | (with_reducible refine Below.al ?_ _) | (with_reducible refine Below.drew ?_) | (with_reducible refine Below.drN ?_ _) | (with_reducible refine Below.via (by with_reducible assumption) ?_) | (with_reducible refine Below.setc ?_ ?_ _) | (with_reducible exact Nat.le_refl _) | (simp; done) | (simp; omega))))
          clear hb6
          go_wp2_with fail
          refine (impl_IsSerial_any _ _ L _ hm2 hcl hc2 O6.out.rd).mono ?_
          rintro e w7 ⟨rfl, hb7⟩
          rw [HVL.out, HSL.out]
          have O7 := Lib.hid (O6.out.on hb7)
          have B7 := Lib.hid (show Below w.heap.size w w7 by have h3 := B6.out; (repeat' (first | (with_reducible exact Below.refl _ _) | (with_reducible assumption) | (with_reducible refine Below.al ?_ _) | (with_reducible refine Below.drew ?_) | (with_reducible refine Below.drN ?_ _) | (with_reducible refine Below.via (by with_reducible assumption) ?_) | (with_reducible refine Below.setc ?_ ?_ _) | (with_reducible exact Nat.le_refl _) | (simp; done) | (simp; omega))))
          clear hb7
          go_wp2_with fail
          refine (ConflictsOf_none _ _ L _ HPL.out hc2 O7.out.rd HNC.out).mono ?_
          rintro e w8 ⟨⟨A8, c8, rfl⟩, hb8⟩
          have h7 := B7.out
          go_wp2
          go_ret
          exact ⟨rfl, by (repeat' (first | (with_reducible exact Below.refl _ _) | (with_reducible assumption) | (with_reducible refine Below.al ?_ _) | (with_reducible refine Below.drew ?_) | (with_reducible refine Below.drN ?_ _) | (with_reducible refine Below.via (by with_reducible assumption) ?_) | (with_reducible refine Below.setc ?_ ?_ _) | (with_reducible exact Nat.le_refl _) | (simp; done) | (simp; omega)))⟩
theorem own : ownKnob Try.prog.godebug = none := by kernel_rfl
theorem laidOut : laidOutB Try.prog = true := by kernel_rfl
set_option maxRecDepth 100000 in
theorem lifted (os : Os) (started : os.Started) (H : Type) (enc : TypeId × Value → H) :
    ReturnsInHanded {} Try.checked os 8 .any (Rows.fnOpsOfSpec.pre6 enc Try.prog Try.f8 Rows.fnOpsOfRow.domain false) (Rows.fnOpsOfSpec.post enc Try.prog Try.f8 false true false false) := by
  refine returnsInHanded_of_change (C := Try.checked) own started (by kernel_rfl) Try.func8
    (ChangeSpec.witness6 (enc := enc) (C := Try.checked) false ⟨#[], #[.slice none 0 0], []⟩ 8 (by kernel_rfl) (by kernel_rfl) (by kernel_rfl) (by kernel_rfl)) ?_
  intro W base args ds gs before hval0 hW hcnd _
  have hval : ∀ (j : Nat) t v, Try.f8.params[j]? = some t → args[j]? = some v → Value.okWide Try.prog W .any base t v := hval0
  have hW' := hW
  obtain ⟨p, q, hA0, hV, rfl, hfz, hnd⟩ := hW
  have hA : DataW.TrodAll enc Try.prog W 0 (fun _ => true) true Try.f8.params.toList args.toList ds p := hA0
  rw [Try.params8] at hA hval
  obtain ⟨v0, vs0, d0, ds0, p0, q0, hargs, rfl, rfl, h0, r0⟩ := trodAll_cons hA
  obtain ⟨rfl, rfl, rfl⟩ := trodAll_nil r0
  obtain rfl : args = #[v0] := by cases args; simp_all
  obtain ⟨rfl, rfl⟩ := trodVars_none hV
  have k0 := h0
  have lt0 : ∀ x ∈ p0, x.block < W.heap.size := by obtain ⟨m, hm⟩ := k0; exact DataW.trod_lt m _ _ _ hm
  obtain ⟨A0, c0, n0, rfl, hc0, hl0, hR0⟩ := open_bytes Try.underlying22 Try.underlying5 (by kernel_rfl) (hval 0 22 v0 rfl rfl) h0
  clear hA0 hval0
  refine (walk A0 c0 n0 W hc0 hl0 hR0).mono fun e W' ⟨he, bel⟩ => ?_
  subst he
  exact ⟨_, rfl, _, _, _, [], _, [], hW', trodAll_mk1 (shut_bool Try.underlying4 _), (trodAll_cons_mk (Below.trod laidOut (by kernel_rfl) (of_decide_eq_true (by kernel_rfl)) k0 bel lt0) trodAll_mk0), rfl, bel.frame _, fun h => by cases h⟩
theorem holds : Rows.FnOpsOfSaid :=
  OpenClaim.holds_of_wide 8 Try.f8 rfl rfl rfl rfl rfl rfl rfl ⟨rfl, rfl, rfl, rfl, rfl⟩ rfl rfl rfl rfl rfl (by kernel_rfl) Try.func8 (by kernel_rfl)
    (of_decide_eq_true (by kernel_rfl)) (by unfold Func.isWrapper; rw [if_neg (of_decide_eq_false (by kernel_rfl))]; exact ⟨rfl, rfl⟩)
    (fun os started H enc _ => lifted os started H enc)
#print axioms holds
end Go.Proofs.Ytlcaadjlghbcpaa.dopsOf
