/- The law FnEndOf answers true: EndOf is the kind of the last operation of the transaction if that ends it, and otherwise -1. No condition. -/
import Derived.Test.YtlcaadjlghbcpaaRows
import Derived.Test.YtlcaadjlghbcpaaSome
import Derived.Test.YtlcaadjlghbcpaaPl
namespace Go.Proofs.Ytlcaadjlghbcpaa.dendOf
set_option linter.unusedSimpArgs false
set_option linter.unusedVariables false
open Go.ChangeShapes Go.WideShapes Go.ChangeAt Go.RowKit
set_option maxHeartbeats 4000000 in
theorem walk (A : Option Addr) (c n : Nat) (w : World) (hc : n ≤ c) (hl : n ≤ maxLen) (hR : RdB w w.heap.size A n) :
    Calls Try.prog 5 #[.slice A n c] w fun e w' => e = .returned (.bool true) ∧ Below w.heap.size w w' := by
  have HL := Lib.hid hl
  unfold maxLen at hl
  by_cases hbig : (1048576 : Int) < n
  · go_enter Try.func5, Try.ntmps5
    go_wp2
    go_ret
    exact ⟨rfl, Below.refl _ _⟩
  · go_enter Try.func5, Try.ntmps5
    go_wp2_with fail
    refine (DrawEndOf_any A c n _ hc HL.out hR).mono ?_
    rintro e w1 ⟨⟨A1, c1, l, t, rfl, hl1, hc1, hR1⟩, hb1⟩
    have HM := Lib.hid (show l.length ≤ maxLen by unfold maxLen; omega)
    have HR := Lib.hid hR1; clear hR1
    have HC := Lib.hid hc1; clear hc1
    go_wp2_with fail
    refine (impl_EndOf_any _ _ _ _ _ HM.out HC.out HR.out).mono ?_
    rintro e w2 ⟨rfl, hb2⟩
    have R2 := Lib.hid (HR.out.on hb2)
    go_wp2_with fail
    refine (spec_EndOf_any _ _ _ _ _ HM.out R2.out).mono ?_
    rintro e w3 ⟨rfl, hb3⟩
    have R3 := Lib.hid (R2.out.on hb3)
    have B3 := Lib.hid (show Below w.heap.size w w3 by (repeat' (first | (with_reducible exact Below.refl _ _) | (with_reducible assumption) | (with_reducible refine Below.al ?_ _) | (with_reducible refine Below.drew ?_) | (with_reducible refine Below.drN ?_ _) | (with_reducible refine Below.via (by with_reducible assumption) ?_) | (with_reducible refine Below.setc ?_ ?_ _) | (with_reducible exact Nat.le_refl _) | (simp; done) | (simp; omega))))
    clear hb1 hb2 hb3
    cases hv : tt (ValidP l)
    · have HV := Lib.hid hv; clear hv
      go_wp2_with fail
      refine (impl_ValidSchedule_any _ _ _ _ HM.out HC.out R3.out).mono ?_
      rintro e w4 ⟨rfl, hb4⟩
      rw [HV.out]
      go_wp2_with fail
      refine (spec_EndOf_any _ _ _ _ _ HM.out (R3.out.on hb4)).mono ?_
      rintro e w5 ⟨rfl, hb5⟩
      have h3 := B3.out
      go_wp2
      go_ret
      exact ⟨rfl, by (repeat' (first | (with_reducible exact Below.refl _ _) | (with_reducible assumption) | (with_reducible refine Below.al ?_ _) | (with_reducible refine Below.drew ?_) | (with_reducible refine Below.drN ?_ _) | (with_reducible refine Below.via (by with_reducible assumption) ?_) | (with_reducible refine Below.setc ?_ ?_ _) | (with_reducible exact Nat.le_refl _) | (simp; done) | (simp; omega)))⟩
    · have HV := Lib.hid hv
      have hP : ValidP l := tt_eq.1 hv
      clear hv
      have hE : endV l t = endL l t := by unfold endV; rw [HV.out]; rfl
      have HOV := Lib.hid (show opsV l t = l.filter (fun o => o.tx == t) by unfold opsV; rw [HV.out]; rfl)
      go_wp2_with fail
      refine (impl_ValidSchedule_any _ _ _ _ HM.out HC.out R3.out).mono ?_
      rintro e w4 ⟨rfl, hb4⟩
      rw [HV.out]
      have B4 := Lib.hid (show Below w.heap.size w w4 by have h3 := B3.out; (repeat' (first | (with_reducible exact Below.refl _ _) | (with_reducible assumption) | (with_reducible refine Below.al ?_ _) | (with_reducible refine Below.drew ?_) | (with_reducible refine Below.drN ?_ _) | (with_reducible refine Below.via (by with_reducible assumption) ?_) | (with_reducible refine Below.setc ?_ ?_ _) | (with_reducible exact Nat.le_refl _) | (simp; done) | (simp; omega))))
      have R4 := Lib.hid (R3.out.on hb4)
      clear hb4
      go_wp2_with fail
      refine (impl_OpsOf_any _ _ _ _ _ (by omega) HC.out R4.out).mono ?_
      rintro e w5 ⟨⟨v, rfl, hO5⟩, hb5⟩
      rw [HOV.out] at hO5
      obtain ⟨A5, c5, rfl, _, hR5, _⟩ := hO5.reads
      have B5 := Lib.hid (show Below w.heap.size w w5 by have h4 := B4.out; (repeat' (first | (with_reducible exact Below.refl _ _) | (with_reducible assumption) | (with_reducible refine Below.al ?_ _) | (with_reducible refine Below.drew ?_) | (with_reducible refine Below.drN ?_ _) | (with_reducible refine Below.via (by with_reducible assumption) ?_) | (with_reducible refine Below.setc ?_ ?_ _) | (with_reducible exact Nat.le_refl _) | (simp; done) | (simp; omega))))
      clear hb5 hO5
      rcases Nat.eq_zero_or_pos (l.filter fun o => o.tx == t).length with h0 | h0
      · have hn := end_none t (List.eq_nil_of_length_eq_zero h0)
        rw [h0, hn]
        go_wp2
        go_ret
        exact ⟨rfl, B5.out⟩
      · obtain ⟨m, hm⟩ : ∃ m, (l.filter fun o => o.tx == t).length = m + 1 := ⟨(l.filter fun o => o.tx == t).length - 1, by omega⟩
        have hl := end_last hP t hm
        have hflen : (l.filter fun o => o.tx == t).length ≤ l.length := List.length_filter_le _ _
        obtain ⟨b, off, rfl, hb, q0, q1, q2⟩ := hR5.at_ (k := m) (by omega)
        generalize ((l.filter fun o => o.tx == t)[m]'(by omega)) = x at hl q0 q1 q2
        rw [hm, hl]
        have hj1 : ((m + 1 : Nat) : Int) - 1 = m := by omega
        have hm16 : m ≤ 16 := by omega
        clear hl h0 hE hR5
        by_cases hk : 2 ≤ x.kind
        · rw [if_pos hk]
          go_wp2
          go_ret
          exact ⟨rfl, B5.out⟩
        · rw [if_neg hk]
          go_wp2
          go_ret
          exact ⟨rfl, B5.out⟩
theorem own : ownKnob Try.prog.godebug = none := by kernel_rfl
theorem laidOut : laidOutB Try.prog = true := by kernel_rfl
set_option maxRecDepth 100000 in
theorem lifted (os : Os) (started : os.Started) (H : Type) (enc : TypeId × Value → H) :
    ReturnsInHanded {} Try.checked os 5 .any (Rows.fnEndOfSpec.pre6 enc Try.prog Try.f5 Rows.fnEndOfRow.domain false) (Rows.fnEndOfSpec.post enc Try.prog Try.f5 false true false false) := by
  refine returnsInHanded_of_change (C := Try.checked) own started (by kernel_rfl) Try.func5
    (ChangeSpec.witness6 (enc := enc) (C := Try.checked) false ⟨#[], #[.slice none 0 0], []⟩ 8 (by kernel_rfl) (by kernel_rfl) (by kernel_rfl) (by kernel_rfl)) ?_
  intro W base args ds gs before hval0 hW hcnd _
  have hval : ∀ (j : Nat) t v, Try.f5.params[j]? = some t → args[j]? = some v → Value.okWide Try.prog W .any base t v := hval0
  have hW' := hW
  obtain ⟨p, q, hA0, hV, rfl, hfz, hnd⟩ := hW
  have hA : DataW.TrodAll enc Try.prog W 0 (fun _ => true) true Try.f5.params.toList args.toList ds p := hA0
  rw [Try.params5] at hA hval
  obtain ⟨v0, vs0, d0, ds0, p0, q0, hargs, rfl, rfl, h0, r0⟩ := trodAll_cons hA
  obtain ⟨rfl, rfl, rfl⟩ := trodAll_nil r0
  obtain rfl : args = #[v0] := by cases args; simp_all
  obtain ⟨rfl, rfl⟩ := trodVars_none hV
  have k0 := h0
  have lt0 : ∀ x ∈ p0, x.block < W.heap.size := by obtain ⟨m, hm⟩ := k0; exact DataW.trod_lt m _ _ _ hm
  obtain ⟨A0, c0, n0, rfl, hc0, hl0, hR0⟩ := open_bytes Try.underlying22 Try.underlying5 (by kernel_rfl) (hval 0 22 v0 rfl rfl) h0
  clear hA0 hval0
  refine (walk A0 c0 n0 W hc0 hl0 hR0).mono fun e W' ⟨he, bel⟩ => ?_
  subst he
  exact ⟨_, rfl, _, _, _, [], _, [], hW', trodAll_mk1 (shut_bool Try.underlying4 _), (trodAll_cons_mk (Below.trod laidOut (by kernel_rfl) (of_decide_eq_true (by kernel_rfl)) k0 bel lt0) trodAll_mk0), rfl, bel.frame _, fun h => by cases h⟩
theorem holds : Rows.FnEndOfSaid :=
  OpenClaim.holds_of_wide 5 Try.f5 rfl rfl rfl rfl rfl rfl rfl ⟨rfl, rfl, rfl, rfl, rfl⟩ rfl rfl rfl rfl rfl (by kernel_rfl) Try.func5 (by kernel_rfl)
    (of_decide_eq_true (by kernel_rfl)) (by unfold Func.isWrapper; rw [if_neg (of_decide_eq_false (by kernel_rfl))]; exact ⟨rfl, rfl⟩)
    (fun os started H enc _ => lifted os started H enc)
#print axioms holds
end Go.Proofs.Ytlcaadjlghbcpaa.dendOf
