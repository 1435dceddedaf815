/- The law FnFaultOf answers true: the operations ahead of a fault keep the rule, and with it they do not. No condition. -/
import Derived.Test.YtafjlklcffbbfaaRows
import Derived.Test.YtafjlklcffbbfaaFauD
namespace Go.Proofs.Ytafjlklcffbbfaa.dfaultOf
set_option linter.unusedSimpArgs false
set_option linter.unusedVariables false
open Go.ChangeShapes Go.WideShapes Go.ChangeAt Go.RowKit
set_option maxRecDepth 100000 in
set_option maxHeartbeats 4000000 in
theorem walk (A : Option Addr) (c n : Nat) (w : World) (hc : n ≤ c) (hl : n ≤ maxLen) (hR : RdB w w.heap.size A n) :
    Calls Try.prog 8 #[.slice A n c] w fun e w' => e = .returned (.bool true) ∧ Below w.heap.size w w' := by
  have HL := Lib.hid hl
  unfold maxLen at hl
  by_cases hbig : (1048576 : Int) < n
  · go_enter Try.func8, Try.ntmps8
    go_wp2
    go_ret
    exact ⟨rfl, Below.refl _ _⟩
  · go_enter Try.func8, Try.ntmps8
    go_wp2_with fail
    refine (DrawFaultOf_any A c n _ hc HL.out hR).mono ?_
    rintro e w1 ⟨⟨s, A1, c1, l, rfl, hl1, hc1, hm1, hR1⟩, hb1⟩
    have HR := Lib.hid hR1; clear hR1
    have HC := Lib.hid hc1
    have HC2 := Lib.hid hm1; clear hm1
    go_wp2_with fail
    refine (impl_FaultOf_any _ _ _ _ _ (by omega) HC.out HC2.out HR.out).mono ?_
    rintro e w2 ⟨rfl, hb2⟩
    have R2 := Lib.hid (HR.out.on hb2)
    go_wp2_with fail
    refine (spec_FaultOf_any _ _ _ _ _ (by omega) R2.out).mono ?_
    rintro e w3 ⟨rfl, hb3⟩
    have R3 := Lib.hid (R2.out.on hb3)
    have B3 := Lib.hid (show Below w.heap.size w w3 by (repeat' (first | (with_reducible exact Below.refl _ _) | (with_reducible assumption) | (with_reducible refine Below.al ?_ _) | (with_reducible refine Below.drew ?_) | (with_reducible refine Below.drN ?_ _) | (with_reducible refine Below.via (by with_reducible assumption) ?_) | (with_reducible refine Below.setc ?_ ?_ _) | (with_reducible exact Nat.le_refl _) | (simp; done) | (simp; omega))))
    clear hb1 hb2 hb3
    have hge := fault_ge (ruleOf s) l
    have HK := Lib.hid (fun (h2 : (faultV (ruleOf s) l).2 = true) => fault_below (r := ruleOf s) (l := l) h2)
    have HA := Lib.hid (fun (h2 : (faultV (ruleOf s) l).2 = true) (k : Nat) => fault_ahead (r := ruleOf s) (l := l) (k := k) h2)
    generalize hf1 : (faultV (ruleOf s) l).1 = x at *
    generalize hf2 : (faultV (ruleOf s) l).2 = y at *
    clear hf1 hf2
    cases y
    · go_wp2
      go_ret
      exact ⟨rfl, B3.out⟩
    · rcases hge with rfl | hx
      · have HKV := Lib.hid (HK.out rfl (by omega))
        clear HK HA
        go_wp2_with fail
        refine (impl_Keeps_any _ _ _ _ _ (by omega) HC.out HC2.out R3.out).mono ?_
        rintro e w4 ⟨rfl, hb4⟩
        rw [HKV.out]
        go_wp2
        go_ret
        have h3 := B3.out
        exact ⟨rfl, by (repeat' (first | (with_reducible exact Below.refl _ _) | (with_reducible assumption) | (with_reducible refine Below.al ?_ _) | (with_reducible refine Below.drew ?_) | (with_reducible refine Below.drN ?_ _) | (with_reducible refine Below.via (by with_reducible assumption) ?_) | (with_reducible refine Below.setc ?_ ?_ _) | (with_reducible exact Nat.le_refl _) | (simp; done) | (simp; omega)))⟩
      · obtain ⟨k, rfl⟩ : ∃ k : Nat, x = k := ⟨x.toNat, by omega⟩
        obtain ⟨hk, h1, h2⟩ := HA.out rfl k rfl
        have H1 := Lib.hid h1
        have H2 := Lib.hid h2
        have hkc : k ≤ c1 := by omega
        have hkc1 : k + 1 ≤ c1 := by omega
        have hnn : ¬ (k : Int) < 0 := by omega
        have hkl : (k : Int) < (l.length : Int) := by omega
        clear HK HA h1 h2
        have e1 : (l.take k).length = k := by simp; omega
        have e2 : (l.take (k + 1)).length = k + 1 := by simp; omega
        have C1 := Lib.hid (fun (w4 : World) (hr : RdO w4 w4.heap.size A1 l) => impl_Keeps_any s A1 c1 (l.take k) w4 (by rw [e1]; omega) (by rw [e1]; omega) HC2.out (hr.take k))
        have C2 := Lib.hid (fun (w4 : World) (hr : RdO w4 w4.heap.size A1 l) => impl_Keeps_any s A1 c1 (l.take (k + 1)) w4 (by rw [e2]; omega) (by rw [e2]; omega) HC2.out (hr.take (k + 1)))
        rw [e1] at C1
        rw [e2] at C2
        clear e1 e2
        go_wp2_with fail
        refine (C1.out _ R3.out).mono ?_
        rintro e w4 ⟨rfl, hb4⟩
        rw [H1.out]
        have R4 := Lib.hid (R3.out.on hb4)
        go_wp2_with fail
        refine (C2.out _ R4.out).mono ?_
        rintro e w5 ⟨rfl, hb5⟩
        rw [H2.out]
        go_wp2
        go_ret
        have h3 := B3.out
        exact ⟨rfl, by (repeat' (first | (with_reducible exact Below.refl _ _) | (with_reducible assumption) | (with_reducible refine Below.al ?_ _) | (with_reducible refine Below.drew ?_) | (with_reducible refine Below.drN ?_ _) | (with_reducible refine Below.via (by with_reducible assumption) ?_) | (with_reducible refine Below.setc ?_ ?_ _) | (with_reducible exact Nat.le_refl _) | (simp; done) | (simp; omega)))⟩
theorem own : ownKnob Try.prog.godebug = none := by kernel_rfl
theorem laidOut : laidOutB Try.prog = true := by kernel_rfl
set_option maxRecDepth 100000 in
theorem lifted (os : Os) (started : os.Started) (H : Type) (enc : TypeId × Value → H) :
    ReturnsInHanded {} Try.checked os 8 .any (Rows.fnFaultOfSpec.pre6 enc Try.prog Try.f8 Rows.fnFaultOfRow.domain false) (Rows.fnFaultOfSpec.post enc Try.prog Try.f8 false true false false) := by
  refine returnsInHanded_of_change (C := Try.checked) own started (by kernel_rfl) Try.func8
    (ChangeSpec.witness6 (enc := enc) (C := Try.checked) false ⟨#[], #[.slice none 0 0], []⟩ 8 (by kernel_rfl) (by kernel_rfl) (by kernel_rfl) (by kernel_rfl)) ?_
  intro W base args ds gs before hval0 hW hcnd _
  have hval : ∀ (j : Nat) t v, Try.f8.params[j]? = some t → args[j]? = some v → Value.okWide Try.prog W .any base t v := hval0
  have hW' := hW
  obtain ⟨p, q, hA0, hV, rfl, hfz, hnd⟩ := hW
  have hA : DataW.TrodAll enc Try.prog W 0 (fun _ => true) true Try.f8.params.toList args.toList ds p := hA0
  rw [Try.params8] at hA hval
  obtain ⟨v0, vs0, d0, ds0, p0, q0, hargs, rfl, rfl, h0, r0⟩ := trodAll_cons hA
  obtain ⟨rfl, rfl, rfl⟩ := trodAll_nil r0
  obtain rfl : args = #[v0] := by cases args; simp_all
  obtain ⟨rfl, rfl⟩ := trodVars_none hV
  have k0 := h0
  have lt0 : ∀ x ∈ p0, x.block < W.heap.size := by obtain ⟨m, hm⟩ := k0; exact DataW.trod_lt m _ _ _ hm
  obtain ⟨A0, c0, n0, rfl, hc0, hl0, hR0⟩ := open_bytes Try.underlying37 Try.underlying5 (by kernel_rfl) (hval 0 37 v0 rfl rfl) h0
  clear hA0 hval0
  refine (walk A0 c0 n0 W hc0 hl0 hR0).mono fun e W' ⟨he, bel⟩ => ?_
  subst he
  exact ⟨_, rfl, _, _, _, [], _, [], hW', trodAll_mk1 (shut_bool Try.underlying4 _), (trodAll_cons_mk (Below.trod laidOut (by kernel_rfl) (of_decide_eq_true (by kernel_rfl)) k0 bel lt0) trodAll_mk0), rfl, bel.frame _, fun h => by cases h⟩
theorem holds : Rows.FnFaultOfSaid :=
  OpenClaim.holds_of_wide 8 Try.f8 rfl rfl rfl rfl rfl rfl rfl ⟨rfl, rfl, rfl, rfl, rfl⟩ rfl rfl rfl rfl rfl (by kernel_rfl) Try.func8 (by kernel_rfl)
    (of_decide_eq_true (by kernel_rfl)) (by unfold Func.isWrapper; rw [if_neg (of_decide_eq_false (by kernel_rfl))]; exact ⟨rfl, rfl⟩)
    (fun os started H enc _ => lifted os started H enc)
#print axioms holds
end Go.Proofs.Ytafjlklcffbbfaa.dfaultOf
