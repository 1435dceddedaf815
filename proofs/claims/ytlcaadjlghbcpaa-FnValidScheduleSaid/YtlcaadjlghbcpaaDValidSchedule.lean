/- The law FnValidSchedule answers true: A schedule without its last operation is one, and so are its committed operations. No condition. -/
import Derived.Test.YtlcaadjlghbcpaaRows
import Derived.Test.YtlcaadjlghbcpaaSome
import Derived.Test.YtlcaadjlghbcpaaPl
namespace Go.Proofs.Ytlcaadjlghbcpaa.dvalidSchedule
set_option linter.unusedSimpArgs false
set_option linter.unusedVariables false
open Go.ChangeShapes Go.WideShapes Go.ChangeAt Go.RowKit
set_option maxHeartbeats 4000000 in
theorem walk (A : Option Addr) (c n : Nat) (w : World) (hc : n ≤ c) (hl : n ≤ maxLen) (hR : RdB w w.heap.size A n) :
    Calls Try.prog 4 #[.slice A n c] w fun e w' => e = .returned (.bool true) ∧ Below w.heap.size w w' := by
  have HL := Lib.hid hl
  unfold maxLen at hl
  by_cases hbig : (1048576 : Int) < n
  · go_enter Try.func4, Try.ntmps4
    go_wp2
    go_ret
    exact ⟨rfl, Below.refl _ _⟩
  · go_enter Try.func4, Try.ntmps4
    go_wp2_with fail
    refine (DrawValidSchedule_any A c n _ hc HL.out hR).mono ?_
    rintro e w1 ⟨⟨A1, c1, l, rfl, hl1, hc1, hR1⟩, hb1⟩
    have HM := Lib.hid (show l.length ≤ maxLen by unfold maxLen; omega)
    have HR := Lib.hid hR1; clear hR1
    have HC := Lib.hid hc1; clear hc1
    cases hv : tt (ValidP l)
    · have HV := Lib.hid hv; clear hv
      go_wp2_with (first | (go_at_call 19; refine (impl_ValidSchedule_any _ _ _ _ HM.out HC.out HR.out).mono ?_; rintro e w2 ⟨rfl, hb2⟩; rw [HV.out]) | (go_at_call 20; refine (spec_ValidSchedule_any _ _ _ _ HM.out (HR.out.on (by (repeat' (first | (with_reducible exact Below.refl _ _) | (with_reducible assumption) | (with_reducible refine Below.al ?_ _) | (with_reducible refine Below.drew ?_) | (with_reducible refine Below.drN ?_ _) | (with_reducible refine Below.via (by with_reducible assumption) ?_) | (with_reducible refine Below.setc ?_ ?_ _) | (with_reducible exact Nat.le_refl _) | (simp; done) | (simp; omega)))))).mono ?_; rintro e w3 ⟨rfl, hb3⟩; rw [HV.out]))
      go_ret
      exact ⟨rfl, by (repeat' (first | (with_reducible exact Below.refl _ _) | (with_reducible assumption) | (with_reducible refine Below.al ?_ _) | (with_reducible refine Below.drew ?_) | (with_reducible refine Below.drN ?_ _) | (with_reducible refine Below.via (by with_reducible assumption) ?_) | (with_reducible refine Below.setc ?_ ?_ _) | (with_reducible exact Nat.le_refl _) | (simp; done) | (simp; omega)))⟩
    · have HV := Lib.hid hv
      have hP : ValidP l := tt_eq.1 hv
      clear hv
      have HT := Lib.hid (show tt (ValidP (l.take (l.length - 1))) = true from tt_true (valid_take hP _))
      have HCV := Lib.hid (show tt (ValidP (comL l)) = true from tt_true (com_valid hP))
      have hcv : comV l = comL l := by unfold comV; rw [HV.out]; rfl
      have HCE := Lib.hid hcv
      have hcl := comL_len l
      have hlen : (l.take (l.length - 1)).length = l.length - 1 := by rw [List.length_take]; omega
      have HLE := Lib.hid hlen; clear hlen hcv
      go_wp2_with fail
      refine (impl_ValidSchedule_any _ _ _ _ HM.out HC.out HR.out).mono ?_
      rintro e w2 ⟨rfl, hb2⟩
      rw [HV.out]
      have R2 := Lib.hid (HR.out.on hb2)
      go_wp2_with fail
      refine (spec_ValidSchedule_any _ _ _ _ HM.out R2.out).mono ?_
      rintro e w3 ⟨rfl, hb3⟩
      rw [HV.out]
      have R3 := Lib.hid (R2.out.on hb3)
      have B3 := Lib.hid (show Below w.heap.size w w3 by (repeat' (first | (with_reducible exact Below.refl _ _) | (with_reducible assumption) | (with_reducible refine Below.al ?_ _) | (with_reducible refine Below.drew ?_) | (with_reducible refine Below.drN ?_ _) | (with_reducible refine Below.via (by with_reducible assumption) ?_) | (with_reducible refine Below.setc ?_ ?_ _) | (with_reducible exact Nat.le_refl _) | (simp; done) | (simp; omega))))
      clear hb1 hb2 hb3
      by_cases h0 : l.length = 0
      · go_wp2_with fail
        have h1 := impl_CommittedOf_any A1 c1 l w3 (by omega) HC.out R3.out
        rw [h0] at h1
        refine h1.mono ?_
        rintro e w4 ⟨⟨v, rfl, hO4⟩, hb4⟩
        rw [HCE.out] at hO4
        obtain ⟨A4, c4, rfl, ⟨hc4, hm4⟩, hR4, _⟩ := hO4.reads
        go_wp2_with fail
        refine (impl_ValidSchedule_any _ _ _ _ hm4 hc4 hR4).mono ?_
        rintro e w5 ⟨rfl, hb5⟩
        rw [HCV.out]
        go_wp2
        go_ret
        have h3 := B3.out
        exact ⟨rfl, by (repeat' (first | (with_reducible exact Below.refl _ _) | (with_reducible assumption) | (with_reducible refine Below.al ?_ _) | (with_reducible refine Below.drew ?_) | (with_reducible refine Below.drN ?_ _) | (with_reducible refine Below.via (by with_reducible assumption) ?_) | (with_reducible refine Below.setc ?_ ?_ _) | (with_reducible exact Nat.le_refl _) | (simp; done) | (simp; omega)))⟩
      · have hcc := HC.out
        go_wp2_with fail
        have h1 := impl_ValidSchedule_any A1 c1 (l.take (l.length - 1)) w3 (by rw [HLE.out]; unfold maxLen; omega) (by rw [HLE.out]; omega) (R3.out.take _)
        rw [HLE.out] at h1
        refine h1.mono ?_
        rintro e w6 ⟨rfl, hb6⟩
        rw [HT.out]
        have R6 := Lib.hid (R3.out.on hb6)
        go_wp2_with fail
        refine (impl_CommittedOf_any A1 c1 l w6 (by omega) HC.out R6.out).mono ?_
        rintro e w4 ⟨⟨v, rfl, hO4⟩, hb4⟩
        rw [HCE.out] at hO4
        obtain ⟨A4, c4, rfl, ⟨hc4, hm4⟩, hR4, _⟩ := hO4.reads
        go_wp2_with fail
        refine (impl_ValidSchedule_any _ _ _ _ hm4 hc4 hR4).mono ?_
        rintro e w5 ⟨rfl, hb5⟩
        rw [HCV.out]
        go_wp2
        go_ret
        have h3 := B3.out
        exact ⟨rfl, by (repeat' (first | (with_reducible exact Below.refl _ _) | (with_reducible assumption) | (with_reducible refine Below.al ?_ _) | (with_reducible refine Below.drew ?_) | (with_reducible refine Below.drN ?_ _) | (with_reducible refine Below.via (by with_reducible assumption) ?_) | (with_reducible refine Below.setc ?_ ?_ _) | (with_reducible exact Nat.le_refl _) | (simp; done) | (simp; omega)))⟩
theorem own : ownKnob Try.prog.godebug = none := by kernel_rfl
theorem laidOut : laidOutB Try.prog = true := by kernel_rfl
set_option maxRecDepth 100000 in
theorem lifted (os : Os) (started : os.Started) (H : Type) (enc : TypeId × Value → H) :
    ReturnsInHanded {} Try.checked os 4 .any (Rows.fnValidScheduleSpec.pre6 enc Try.prog Try.f4 Rows.fnValidScheduleRow.domain false) (Rows.fnValidScheduleSpec.post enc Try.prog Try.f4 false true false false) := by
  refine returnsInHanded_of_change (C := Try.checked) own started (by kernel_rfl) Try.func4
    (ChangeSpec.witness6 (enc := enc) (C := Try.checked) false ⟨#[], #[.slice none 0 0], []⟩ 8 (by kernel_rfl) (by kernel_rfl) (by kernel_rfl) (by kernel_rfl)) ?_
  intro W base args ds gs before hval0 hW hcnd _
  have hval : ∀ (j : Nat) t v, Try.f4.params[j]? = some t → args[j]? = some v → Value.okWide Try.prog W .any base t v := hval0
  have hW' := hW
  obtain ⟨p, q, hA0, hV, rfl, hfz, hnd⟩ := hW
  have hA : DataW.TrodAll enc Try.prog W 0 (fun _ => true) true Try.f4.params.toList args.toList ds p := hA0
  rw [Try.params4] at hA hval
  obtain ⟨v0, vs0, d0, ds0, p0, q0, hargs, rfl, rfl, h0, r0⟩ := trodAll_cons hA
  obtain ⟨rfl, rfl, rfl⟩ := trodAll_nil r0
  obtain rfl : args = #[v0] := by cases args; simp_all
  obtain ⟨rfl, rfl⟩ := trodVars_none hV
  have k0 := h0
  have lt0 : ∀ x ∈ p0, x.block < W.heap.size := by obtain ⟨m, hm⟩ := k0; exact DataW.trod_lt m _ _ _ hm
  obtain ⟨A0, c0, n0, rfl, hc0, hl0, hR0⟩ := open_bytes Try.underlying22 Try.underlying5 (by kernel_rfl) (hval 0 22 v0 rfl rfl) h0
  clear hA0 hval0
  refine (walk A0 c0 n0 W hc0 hl0 hR0).mono fun e W' ⟨he, bel⟩ => ?_
  subst he
  exact ⟨_, rfl, _, _, _, [], _, [], hW', trodAll_mk1 (shut_bool Try.underlying4 _), (trodAll_cons_mk (Below.trod laidOut (by kernel_rfl) (of_decide_eq_true (by kernel_rfl)) k0 bel lt0) trodAll_mk0), rfl, bel.frame _, fun h => by cases h⟩
theorem holds : Rows.FnValidScheduleSaid :=
  OpenClaim.holds_of_wide 4 Try.f4 rfl rfl rfl rfl rfl rfl rfl ⟨rfl, rfl, rfl, rfl, rfl⟩ rfl rfl rfl rfl rfl (by kernel_rfl) Try.func4 (by kernel_rfl)
    (of_decide_eq_true (by kernel_rfl)) (by unfold Func.isWrapper; rw [if_neg (of_decide_eq_false (by kernel_rfl))]; exact ⟨rfl, rfl⟩)
    (fun os started H enc _ => lifted os started H enc)
#print axioms holds
end Go.Proofs.Ytlcaadjlghbcpaa.dvalidSchedule
