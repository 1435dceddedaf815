/- The law FnCompleted answers true: In Completed each transaction ends, it begins with the schedule, and completed again it is the same. No condition. -/
import Derived.Test.YtlcaadjlghbcpaaRows
import Derived.Test.YtlcaadjlghbcpaaSome
import Derived.Test.YtlcaadjlghbcpaaPl
import Derived.Test.YtlcaadjlghbcpaaLawsD
import Derived.Test.YtlcaadjlghbcpaaCpl
namespace Go.Proofs.Ytlcaadjlghbcpaa.dcompleted
set_option linter.unusedSimpArgs false
set_option linter.unusedVariables false
open Go.ChangeShapes Go.WideShapes Go.ChangeAt Go.RowKit
set_option maxHeartbeats 400000 in
theorem DrawCompleted_addr (A : Option Addr) (c n : Nat) (w : World) (hc : n ≤ c) (hl : n ≤ maxLen) (hR : RdB w w.heap.size A n) :
    Calls Try.prog 44 #[.slice A n c] w fun e w' => (∃ A' c' l, e = .returned (.slice A' l.length c') ∧ l.length ≤ 16 ∧ l.length ≤ c' ∧ AddrOk A' c' ∧ RdO w' w'.heap.size A' l) ∧ Below w.heap.size w w' := by
  go_enter Try.func44, Try.ntmps44
  go_wp2_with fail
  refine (newReader_any A c n _ hc hl hR).mono ?_
  rintro e w1 ⟨⟨rfl, hr1⟩, hb1⟩
  go_wp2_with fail
  refine (someSchedule_any w.heap.size 0 _ (by omega) hr1).mono ?_
  rintro e w2 ⟨⟨A', c', l, P', rfl, hO, hl', _, _⟩, hg2⟩
  go_wp2
  go_ret
  exact ⟨⟨A', c', l, rfl, hl', hO.cap, OwnG.addr hO, hO.rd⟩, hb1.grown hg2 hb1.size (fun k hk => by simp at hk; omega)⟩
set_option maxHeartbeats 4000000 in
theorem walk (A : Option Addr) (c n : Nat) (w : World) (hc : n ≤ c) (hl : n ≤ maxLen) (hR : RdB w w.heap.size A n) :
    Calls Try.prog 11 #[.slice A n c] w fun e w' => e = .returned (.bool true) ∧ Below w.heap.size w w' := by
  have HL := Lib.hid hl
  unfold maxLen at hl
  by_cases hbig : (1048576 : Int) < n
  · go_enter Try.func11, Try.ntmps11
    go_wp2
    go_ret
    exact ⟨rfl, Below.refl _ _⟩
  · go_enter Try.func11, Try.ntmps11
    go_wp2_with fail
    refine (DrawCompleted_addr A c n _ hc HL.out hR).mono ?_
    rintro e w1 ⟨⟨A1, c1, l, rfl, hl1, hc1, hA1, hR1⟩, hb1⟩
    have HM := Lib.hid (show l.length ≤ maxLen by unfold maxLen; omega)
    have HR := Lib.hid hR1; clear hR1
    have HC := Lib.hid hc1; clear hc1
    go_wp2_with fail
    refine (impl_Completed_any _ _ _ _ (by omega) HC.out HR.out hA1).mono ?_
    rintro e w2 ⟨⟨v2, rfl, hO2⟩, hb2⟩
    have R2 := Lib.hid (HR.out.on hb2)
    go_wp2_with fail
    refine (spec_Completed_any _ _ _ _ (by omega) HC.out R2.out hA1).mono ?_
    rintro e w3 ⟨⟨v3, rfl, hO3⟩, hb3⟩
    have R3 := Lib.hid (R2.out.on hb3)
    have O2 := Lib.hid (hO2.on hb3)
    have B3 := Lib.hid (show Below w.heap.size w w3 by (repeat' (first | (with_reducible exact Below.refl _ _) | (with_reducible assumption) | (with_reducible refine Below.al ?_ _) | (with_reducible refine Below.drew ?_) | (with_reducible refine Below.drN ?_ _) | (with_reducible refine Below.via (by with_reducible assumption) ?_) | (with_reducible refine Below.setc ?_ ?_ _) | (with_reducible exact Nat.le_refl _) | (simp; done) | (simp; omega))))
    obtain ⟨A2, c2, rfl, ⟨hc2, hm2⟩, _, _⟩ := hO2.reads
    obtain ⟨A3, c3, rfl, _, hR3', _⟩ := hO3.reads
    have O3 := Lib.hid hO3
    have hcl := cplV_len l (by omega)
    clear hb1 hb2 hb3 hO2 hO3
    go_wp2_with fail
    refine (equalOps_any A2 A3 c2 c3 (cplV l) _ hcl O2.out.rd hR3').mono ?_
    rintro e w4 ⟨rfl, hb4⟩
    have B4 := Lib.hid (show Below w.heap.size w w4 by have h3 := B3.out; (repeat' (first | (with_reducible exact Below.refl _ _) | (with_reducible assumption) | (with_reducible refine Below.al ?_ _) | (with_reducible refine Below.drew ?_) | (with_reducible refine Below.drN ?_ _) | (with_reducible refine Below.via (by with_reducible assumption) ?_) | (with_reducible refine Below.setc ?_ ?_ _) | (with_reducible exact Nat.le_refl _) | (simp; done) | (simp; omega))))
    have R4 := Lib.hid (R3.out.on hb4)
    have O4 := Lib.hid (O2.out.on hb4)
    have O34 := Lib.hid (O3.out.on hb4)
    clear hb4 hR3' O2 O3 R3 B3
    cases hv : cplOk l
    · go_wp2_with fail
      refine (equalOps_any A2 A3 c2 c3 (cplV l) _ hcl O4.out.rd O34.out.rd).mono ?_
      rintro e w5 ⟨rfl, hb5⟩
      have h4 := B4.out
      go_wp2
      go_ret
      exact ⟨rfl, by (repeat' (first | (with_reducible exact Below.refl _ _) | (with_reducible assumption) | (with_reducible refine Below.al ?_ _) | (with_reducible refine Below.drew ?_) | (with_reducible refine Below.drN ?_ _) | (with_reducible refine Below.via (by with_reducible assumption) ?_) | (with_reducible refine Below.setc ?_ ?_ _) | (with_reducible exact Nat.le_refl _) | (simp; done) | (simp; omega)))⟩
    · have hcv : cplV l = cplL l := by unfold cplV; rw [hv]; rfl
      have hok := hv
      simp only [cplOk, Bool.and_eq_true, decide_eq_true_eq] at hok
      have hP : ValidP l := tt_eq.1 hok.1
      have hPL := cpl_valid hP hok.2
      have hL16 := hok.2
      have HVL := Lib.hid (show tt (ValidP (cplL l)) = true from tt_true hPL)
      have HOK := Lib.hid (show cplOk (cplL l) = true by unfold cplOk; rw [tt_true hPL, cpl_cpl]; simpa using hok.2)
      have HCC := Lib.hid (show cplV (cplL l) = cplL l by unfold cplV; rw [HOK.out, if_pos rfl, cpl_cpl])
      have HTX := Lib.hid (show txsV (cplL l) = txsL (cplL l) by unfold txsV; rw [HVL.out]; rfl)
      have HEN := Lib.hid (show ∀ k (h : k < (txsL (cplL l)).length), ¬ endV (cplL l) (txsL (cplL l))[k] < 0 from fun k h => by unfold endV; rw [HVL.out, if_pos rfl]; have := cpl_end (List.getElem_mem h); omega)
      have HTK := Lib.hid (show (cplL l).take l.length = l by unfold cplL; simp)
      have hll : l.length ≤ (cplL l).length := by unfold cplL; simp
      have ht4 := txs_le4 (cplL l)
      rw [hcv] at O4 hm2 hc2 hcl ⊢
      clear hcv hok O34
      have HC2 := Lib.hid hc2
      have HM2 := Lib.hid hm2
      have R42 := Lib.hid (O4.out.rd)
      go_wp2_with fail
      refine (impl_TxsOf_any _ _ (cplL l) _ (by omega) HC2.out R42.out).mono ?_
      rintro e w5 ⟨⟨v5, rfl, hO5⟩, hb5⟩
      rw [HTX.out] at hO5
      obtain ⟨A5, c5, rfl, _, _, _⟩ := hO5.reads
      have T5 := Lib.hid hO5; clear hO5
      have B5 := Lib.hid (show Below w.heap.size w w5 by have h3 := B4.out; (repeat' (first | (with_reducible exact Below.refl _ _) | (with_reducible assumption) | (with_reducible refine Below.al ?_ _) | (with_reducible refine Below.drew ?_) | (with_reducible refine Below.drN ?_ _) | (with_reducible refine Below.via (by with_reducible assumption) ?_) | (with_reducible refine Below.setc ?_ ?_ _) | (with_reducible exact Nat.le_refl _) | (simp; done) | (simp; omega))))
      have R5 := Lib.hid (R4.out.on hb5)
      have O5 := Lib.hid (O4.out.on hb5)
      clear hb5 R4 O4 B4 R42
      go_wp2_with fail
      go_loopw [9] (fun i wr => ∃ k : Nat, k ≤ (txsL (cplL l)).length ∧ i = .int .i64 k ∧ Below w5.heap.size w5 wr) (fun i _ => (txsL (cplL l)).length - (intOf i).toNat)
      case atStart => exact ⟨0, Nat.zero_le _, rfl, Below.refl _ _⟩
      case round =>
        obtain ⟨k, hk, rfl, hbw⟩ := hrel
        have HB := Lib.hid hbw; clear hbw
        have O6 := Lib.hid (O5.out.on HB.out)
        have R6 := Lib.hid (R5.out.on HB.out)
        have T6 := Lib.hid (T5.out.on HB.out)
        by_cases hlt : k < (txsL (cplL l)).length
        · obtain ⟨b, off, he, hb, q0⟩ := T6.out.rd.at_ hlt
          subst he
          have hen := HEN.out k hlt
          go_wp2_with (go_at_call 23; refine (impl_EndOf_any _ _ _ _ _ HM2.out HC2.out O6.out.rd).mono ?_; rintro e w7 ⟨rfl, hb7⟩)
          exact ⟨⟨k + 1, by omega, by go_num, by have hbw := HB.out; (repeat' (first | (with_reducible exact Below.refl _ _) | (with_reducible assumption) | (with_reducible refine Below.al ?_ _) | (with_reducible refine Below.drew ?_) | (with_reducible refine Below.drN ?_ _) | (with_reducible refine Below.via (by with_reducible assumption) ?_) | (with_reducible refine Below.setc ?_ ?_ _) | (with_reducible exact Nat.le_refl _) | (simp; done) | (simp; omega)))⟩, by simp [intOf]; omega⟩
        · have hcap2 : l.length ≤ c2 := by have := HC2.out; omega
          go_wp2_with fail
          refine (impl_Completed_any _ _ (cplL l) _ (by omega) HC2.out O6.out.rd (OwnG.addr O6.out)).mono ?_
          rintro e w8 ⟨⟨v8, rfl, hO8⟩, hb8⟩
          rw [HCC.out] at hO8
          rw [HOK.out]
          obtain ⟨A8, c8, rfl, _, hR8, _⟩ := hO8.reads
          have O68 := Lib.hid (O6.out.on hb8)
          have R68 := Lib.hid (R6.out.on hb8)
          have B8 := Lib.hid (show Below w.heap.size w w8 from Below.via hb8 (Below.via HB.out B5.out))
          clear hb8 hO8
          go_wp2_with fail
          refine (equalOps_any A8 A2 c8 c2 (cplL l) _ hcl hR8 O68.out.rd).mono ?_
          rintro e w9 ⟨rfl, hb9⟩
          have O9 := Lib.hid (O68.out.on hb9)
          have R9 := Lib.hid (R68.out.on hb9)
          have B9 := Lib.hid (show Below w.heap.size w w9 from Below.via hb9 B8.out)
          clear hb9 hR8
          go_wp2_with fail
          have h1 := O9.out.rd.take l.length
          rw [HTK.out] at h1
          refine (equalOps_any A2 A1 c2 c1 l _ (by omega) h1 R9.out).mono ?_
          rintro e w10 ⟨rfl, hb10⟩
          have O10 := Lib.hid (O9.out.on hb10)
          have B10 := Lib.hid (show Below w.heap.size w w10 from Below.via hb10 B9.out)
          clear hb10
          go_wp2_with fail
          refine (impl_ValidSchedule_any _ _ (cplL l) _ HM2.out HC2.out O10.out.rd).mono ?_
          rintro e w11 ⟨rfl, hb11⟩
          rw [HVL.out]
          have h10 := B10.out
          go_wp2
          go_ret
          exact ⟨rfl, by (repeat' (first | (with_reducible exact Below.refl _ _) | (with_reducible assumption) | (with_reducible refine Below.al ?_ _) | (with_reducible refine Below.drew ?_) | (with_reducible refine Below.drN ?_ _) | (with_reducible refine Below.via (by with_reducible assumption) ?_) | (with_reducible refine Below.setc ?_ ?_ _) | (with_reducible exact Nat.le_refl _) | (simp; done) | (simp; omega)))⟩
theorem own : ownKnob Try.prog.godebug = none := by kernel_rfl
theorem laidOut : laidOutB Try.prog = true := by kernel_rfl
set_option maxRecDepth 100000 in
theorem lifted (os : Os) (started : os.Started) (H : Type) (enc : TypeId × Value → H) :
    ReturnsInHanded {} Try.checked os 11 .any (Rows.fnCompletedSpec.pre6 enc Try.prog Try.f11 Rows.fnCompletedRow.domain false) (Rows.fnCompletedSpec.post enc Try.prog Try.f11 false true false false) := by
  refine returnsInHanded_of_change (C := Try.checked) own started (by kernel_rfl) Try.func11
    (ChangeSpec.witness6 (enc := enc) (C := Try.checked) false ⟨#[], #[.slice none 0 0], []⟩ 8 (by kernel_rfl) (by kernel_rfl) (by kernel_rfl) (by kernel_rfl)) ?_
  intro W base args ds gs before hval0 hW hcnd _
  have hval : ∀ (j : Nat) t v, Try.f11.params[j]? = some t → args[j]? = some v → Value.okWide Try.prog W .any base t v := hval0
  have hW' := hW
  obtain ⟨p, q, hA0, hV, rfl, hfz, hnd⟩ := hW
  have hA : DataW.TrodAll enc Try.prog W 0 (fun _ => true) true Try.f11.params.toList args.toList ds p := hA0
  rw [Try.params11] at hA hval
  obtain ⟨v0, vs0, d0, ds0, p0, q0, hargs, rfl, rfl, h0, r0⟩ := trodAll_cons hA
  obtain ⟨rfl, rfl, rfl⟩ := trodAll_nil r0
  obtain rfl : args = #[v0] := by cases args; simp_all
  obtain ⟨rfl, rfl⟩ := trodVars_none hV
  have k0 := h0
  have lt0 : ∀ x ∈ p0, x.block < W.heap.size := by obtain ⟨m, hm⟩ := k0; exact DataW.trod_lt m _ _ _ hm
  obtain ⟨A0, c0, n0, rfl, hc0, hl0, hR0⟩ := open_bytes Try.underlying22 Try.underlying5 (by kernel_rfl) (hval 0 22 v0 rfl rfl) h0
  clear hA0 hval0
  refine (walk A0 c0 n0 W hc0 hl0 hR0).mono fun e W' ⟨he, bel⟩ => ?_
  subst he
  exact ⟨_, rfl, _, _, _, [], _, [], hW', trodAll_mk1 (shut_bool Try.underlying4 _), (trodAll_cons_mk (Below.trod laidOut (by kernel_rfl) (of_decide_eq_true (by kernel_rfl)) k0 bel lt0) trodAll_mk0), rfl, bel.frame _, fun h => by cases h⟩
theorem holds : Rows.FnCompletedSaid :=
  OpenClaim.holds_of_wide 11 Try.f11 rfl rfl rfl rfl rfl rfl rfl ⟨rfl, rfl, rfl, rfl, rfl⟩ rfl rfl rfl rfl rfl (by kernel_rfl) Try.func11 (by kernel_rfl)
    (of_decide_eq_true (by kernel_rfl)) (by unfold Func.isWrapper; rw [if_neg (of_decide_eq_false (by kernel_rfl))]; exact ⟨rfl, rfl⟩)
    (fun os started H enc _ => lifted os started H enc)
#print axioms holds
end Go.Proofs.Ytlcaadjlghbcpaa.dcompleted
