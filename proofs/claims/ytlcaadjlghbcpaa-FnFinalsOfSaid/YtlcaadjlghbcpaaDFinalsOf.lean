/- The law FnFinalsOf answers true: Each of FinalsOf is -1, or a transaction that writes the item and has no OpAbort. No condition. -/
import Derived.Test.YtlcaadjlghbcpaaRows
import Derived.Test.YtlcaadjlghbcpaaSome
import Derived.Test.YtlcaadjlghbcpaaPl
import Derived.Test.YtlcaadjlghbcpaaLawsD
import Derived.Test.YtlcaadjlghbcpaaFinals
namespace Go.Proofs.Ytlcaadjlghbcpaa.dfinalsOf
set_option linter.unusedSimpArgs false
set_option linter.unusedVariables false
open Go.ChangeShapes Go.WideShapes Go.ChangeAt Go.RowKit
theorem any_take_succ {α : Type} (p : α → Bool) {l : List α} {j : Nat} (hj : j < l.length) : (l.take (j + 1)).any p = ((l.take j).any p || p l[j]) := by
  rw [List.take_succ_eq_append_getElem hj, List.any_append]; simp
/-- A transaction that is -1 or writes the item in one of the first j operations. -/
def metB (l : List O3) (t x : Int) (j : Nat) : Bool := (t == -1) || (l.take j).any (fun o => O3.eqb o ⟨t, 1, x⟩)
theorem met_yes {l : List O3} {t x : Int} {j : Nat} (hj : j < l.length) (h : metB l t x j = true) : metB l t x (j + 1) = true := by
  unfold metB at *
  rw [any_take_succ _ hj, ← Bool.or_assoc, h, Bool.true_or]
theorem met_no {l : List O3} {t x : Int} {j : Nat} (hj : j < l.length) (h : metB l t x j = false) : metB l t x (j + 1) = O3.eqb l[j] ⟨t, 1, x⟩ := by
  unfold metB at *
  rw [any_take_succ _ hj, ← Bool.or_assoc, h, Bool.false_or]
theorem fin_cases (l : List O3) (x : Int) : finAt l x l.length = -1 ∨ ∃ j, ∃ h : j < l.length, l[j].kind = 1 ∧ l[j].item = x ∧ (endL l l[j].tx == 3) = false ∧ finAt l x l.length = l[j].tx := by
  rcases srcAt_cases (fun o => o.kind == 1 && (o.item == x && !(endL l o.tx == 3))) l l.length with h | ⟨j, hj, hji, h1, h2⟩
  · exact .inl h
  · simp only [Bool.and_eq_true, beq_iff_eq, Bool.not_eq_true'] at h1
    exact .inr ⟨j, hj, h1.1, h1.2.1, h1.2.2, h2⟩
theorem met_fin (l : List O3) (x : Int) : metB l (finAt l x l.length) x l.length = true := by
  rcases fin_cases l x with h | ⟨j, hj, h1, h2, _, h3⟩
  · unfold metB; rw [h]; rfl
  · unfold metB
    rw [h3, Bool.or_eq_true, List.any_eq_true]
    refine .inr ⟨l[j], take_mem.2 ⟨j, hj, hj, rfl⟩, ?_⟩
    simp [O3.eqb, h1, h2]
theorem fin_end (l : List O3) (x : Int) (h0 : 0 ≤ finAt l x l.length) : (endL l (finAt l x l.length) == 3) = false := by
  rcases fin_cases l x with h | ⟨j, hj, _, _, h2, h3⟩
  · rw [h] at h0; omega
  · rw [h3]; exact h2
theorem fins_at (l : List O3) (n k : Nat) (h : k < (fins l n).length) : (fins l n)[k] = finAt l k n := by
  match k, h with
  | 0, _ => rfl
  | 1, _ => rfl
  | 2, _ => rfl
set_option maxHeartbeats 4000000 in
theorem walk (A : Option Addr) (c n : Nat) (w : World) (hc : n ≤ c) (hl : n ≤ maxLen) (hR : RdB w w.heap.size A n) :
    Calls Try.prog 10 #[.slice A n c] w fun e w' => e = .returned (.bool true) ∧ Below w.heap.size w w' := by
  have HL := Lib.hid hl
  unfold maxLen at hl
  by_cases hbig : (1048576 : Int) < n
  · go_enter Try.func10, Try.ntmps10
    go_wp2
    go_ret
    exact ⟨rfl, Below.refl _ _⟩
  · go_enter Try.func10, Try.ntmps10
    go_wp2_with fail
    refine (DrawFinalsOf_any A c n _ hc HL.out hR).mono ?_
    rintro e w1 ⟨⟨A1, c1, l, rfl, hl1, hc1, hR1⟩, hb1⟩
    have HM := Lib.hid (show l.length ≤ maxLen by unfold maxLen; omega)
    have HR := Lib.hid hR1; clear hR1
    have HC := Lib.hid hc1; clear hc1
    go_wp2_with fail
    refine (impl_FinalsOf_any _ _ _ _ (by omega) HC.out HR.out).mono ?_
    rintro e w2 ⟨⟨v2, rfl, hO2⟩, hb2⟩
    have R2 := Lib.hid (HR.out.on hb2)
    go_wp2_with fail
    refine (spec_FinalsOf_any _ _ _ _ (by omega) HC.out R2.out).mono ?_
    rintro e w3 ⟨⟨v3, rfl, hO3⟩, hb3⟩
    have R3 := Lib.hid (R2.out.on hb3)
    have O2 := Lib.hid (hO2.on hb3)
    have B3 := Lib.hid (show Below w.heap.size w w3 by (repeat' (first | (with_reducible exact Below.refl _ _) | (with_reducible assumption) | (with_reducible refine Below.al ?_ _) | (with_reducible refine Below.drew ?_) | (with_reducible refine Below.drN ?_ _) | (with_reducible refine Below.via (by with_reducible assumption) ?_) | (with_reducible refine Below.setc ?_ ?_ _) | (with_reducible exact Nat.le_refl _) | (simp; done) | (simp; omega))))
    obtain ⟨A2, c2, rfl, ⟨hc2, hm2⟩, _, _⟩ := hO2.reads
    obtain ⟨A3, c3, rfl, _, hR3', _⟩ := hO3.reads
    have hcl := finsV_len l (by omega)
    clear hb1 hb2 hb3 hO2 hO3
    go_wp2_with fail
    refine (equalInts_any A2 A3 c2 c3 (finsV l) _ hcl O2.out.rd hR3').mono ?_
    rintro e w4 ⟨rfl, hb4⟩
    have B4 := Lib.hid (show Below w.heap.size w w4 by have h3 := B3.out; (repeat' (first | (with_reducible exact Below.refl _ _) | (with_reducible assumption) | (with_reducible refine Below.al ?_ _) | (with_reducible refine Below.drew ?_) | (with_reducible refine Below.drN ?_ _) | (with_reducible refine Below.via (by with_reducible assumption) ?_) | (with_reducible refine Below.setc ?_ ?_ _) | (with_reducible exact Nat.le_refl _) | (simp; done) | (simp; omega))))
    have R4 := Lib.hid (R3.out.on hb4)
    have O4 := Lib.hid (O2.out.on hb4)
    clear hb4 hR3' O2 R3 B3
    cases hv : tt (ValidP l)
    · have HV := Lib.hid hv; clear hv
      go_wp2_with fail
      refine (impl_ValidSchedule_any _ _ _ _ HM.out HC.out R4.out).mono ?_
      rintro e w5 ⟨rfl, hb5⟩
      rw [HV.out]
      go_wp2_with fail
      refine (spec_FinalsOf_any _ _ _ _ (by omega) HC.out (R4.out.on hb5)).mono ?_
      rintro e w6 ⟨⟨v6, rfl, hO6⟩, hb6⟩
      obtain ⟨A6, c6, rfl, _, hR6, _⟩ := hO6.reads
      go_wp2_with fail
      refine (equalInts_any A2 A6 c2 c6 (finsV l) _ hcl ((O4.out.on hb5).on hb6).rd hR6).mono ?_
      rintro e w7 ⟨rfl, hb7⟩
      have h4 := B4.out
      go_wp2
      go_ret
      exact ⟨rfl, by (repeat' (first | (with_reducible exact Below.refl _ _) | (with_reducible assumption) | (with_reducible refine Below.al ?_ _) | (with_reducible refine Below.drew ?_) | (with_reducible refine Below.drN ?_ _) | (with_reducible refine Below.via (by with_reducible assumption) ?_) | (with_reducible refine Below.setc ?_ ?_ _) | (with_reducible exact Nat.le_refl _) | (simp; done) | (simp; omega)))⟩
    · have HV := Lib.hid hv
      have hP : ValidP l := tt_eq.1 hv
      clear hv
      have hcv : finsV l = fins l l.length := by unfold finsV; rw [HV.out]; rfl
      have hle : (fins l l.length).length = 3 := rfl
      have HEV := Lib.hid (show ∀ t, endV l t = endL l t from fun t => by unfold endV; rw [HV.out]; rfl)
      rw [hcv] at O4 hm2 hc2 hcl ⊢; clear hcv
      go_wp2_with fail
      refine (impl_ValidSchedule_any _ _ _ _ HM.out HC.out R4.out).mono ?_
      rintro e w5 ⟨rfl, hb5⟩
      rw [HV.out]
      have B5 := Lib.hid (show Below w.heap.size w w5 by have h3 := B4.out; (repeat' (first | (with_reducible exact Below.refl _ _) | (with_reducible assumption) | (with_reducible refine Below.al ?_ _) | (with_reducible refine Below.drew ?_) | (with_reducible refine Below.drN ?_ _) | (with_reducible refine Below.via (by with_reducible assumption) ?_) | (with_reducible refine Below.setc ?_ ?_ _) | (with_reducible exact Nat.le_refl _) | (simp; done) | (simp; omega))))
      have R5 := Lib.hid (R4.out.on hb5)
      have O5 := Lib.hid (O4.out.on hb5)
      clear hb5 R4 O4 B4
      have HL3 := Lib.hid hle
      go_wp2_with fail
      go_loopw [5] (fun i wr => ∃ k : Nat, k ≤ (fins l l.length).length ∧ i = .int .i64 k ∧ Below w5.heap.size w5 wr) (fun i _ => (fins l l.length).length - (intOf i).toNat)
      case atStart => exact ⟨0, Nat.zero_le _, rfl, Below.refl _ _⟩
      case round =>
        obtain ⟨k, hk, rfl, hbw⟩ := hrel
        have HB := Lib.hid hbw; clear hbw
        have O6 := Lib.hid (O5.out.on HB.out)
        have R6 := Lib.hid (R5.out.on HB.out)
        by_cases hlt : k < (fins l l.length).length
        · obtain ⟨b2, off2, he2, hb2, p0⟩ := O6.out.rd.at_ hlt
          subst he2
          rw [fins_at] at p0
          have hk3 : k < 3 := hlt
          have hmet := Lib.hid (met_fin l k)
          have hfe := Lib.hid (fin_end l k)
          obtain ⟨wo, hwo⟩ : ∃ wo : World, wo = wr := ⟨_, rfl⟩
          subst hwo
          have HT := Lib.hid (show (finAt l k l.length == -1) = metB l (finAt l k l.length) k 0 by unfold metB; simp)
          generalize hsr : finAt l k l.length = t at *
          clear hsr
          generalize hLn : (fins l l.length).length = L at *
          go_wp2_with fail
          rw [HT.out]
          go_loopw [6, 7] (fun v7 v8 wr => ∃ j : Nat, j ≤ l.length ∧ v8 = .int .i64 j ∧ v7 = .bool (metB l t k j) ∧ Below wo.heap.size wo wr) (fun _ v8 _ => l.length - (intOf v8).toNat)
          case atStart => exact ⟨0, Nat.zero_le _, rfl, rfl, Below.refl _ _⟩
          case round =>
            obtain ⟨j, hj, rfl, rfl, hbi⟩ := hrel
            have HI := Lib.hid hbi; clear hbi
            obtain ⟨hbc, hbf, hbz⟩ := bcell HI.out
            by_cases hjl : j < l.length
            · obtain ⟨b', off', he, hb', s0, s1, s2⟩ := (R6.out.on HI.out).at_ hjl
              subst he
              cases em : metB l t k j
              · have HM2 := Lib.hid (met_no hjl em)
                have he := em
                go_wp2_with fail
                ((first | (with_reducible refine wp_region_from (by with_reducible assumption) follows (by kernel_rfl) ?_) | (refine wp_region_aft follows (by kernel_rfl) ?_)); (repeat (go_big_quiet_step (fail))); refine wpQuiet_nil ?_; intro _ hw'; obtain ⟨⟨w1, hb⟩, rfl⟩ := hw'; (try dsimp only); first | (replace hb := Below.via hb (by with_reducible assumption); (try clear hbc hbf hbz); obtain ⟨hbc, hbf, hbz⟩ := bcell hb) | (obtain ⟨hbc, hbf, hbz⟩ := bcell hb))
                go_wp2
                exact ⟨⟨j + 1, by omega, by go_num, by rw [HM2.out], by have hbi := HI.out; (repeat' (first | (with_reducible exact Below.refl _ _) | (with_reducible assumption) | (with_reducible refine Below.al ?_ _) | (with_reducible refine Below.drew ?_) | (with_reducible refine Below.drN ?_ _) | (with_reducible refine Below.via (by with_reducible assumption) ?_) | (with_reducible refine Below.setc ?_ ?_ _) | (with_reducible exact Nat.le_refl _) | (simp; done) | (simp; omega)))⟩, by simp [intOf]; omega⟩
              · have HM2 := Lib.hid (met_yes hjl em)
                go_wp2_with fail
                ((first | (with_reducible refine wp_region_from (by with_reducible assumption) follows (by kernel_rfl) ?_) | (refine wp_region_aft follows (by kernel_rfl) ?_)); (repeat (go_big_quiet_step (fail))); refine wpQuiet_nil ?_; intro _ hw'; obtain ⟨⟨w1, hb⟩, rfl⟩ := hw'; (try dsimp only); first | (replace hb := Below.via hb (by with_reducible assumption); (try clear hbc hbf hbz); obtain ⟨hbc, hbf, hbz⟩ := bcell hb) | (obtain ⟨hbc, hbf, hbz⟩ := bcell hb))
                go_wp2
                exact ⟨⟨j + 1, by omega, by go_num, by rw [HM2.out], by have hbi := HI.out; (repeat' (first | (with_reducible exact Below.refl _ _) | (with_reducible assumption) | (with_reducible refine Below.al ?_ _) | (with_reducible refine Below.drew ?_) | (with_reducible refine Below.drN ?_ _) | (with_reducible refine Below.via (by with_reducible assumption) ?_) | (with_reducible refine Below.setc ?_ ?_ _) | (with_reducible exact Nat.le_refl _) | (simp; done) | (simp; omega)))⟩, by simp [intOf]; omega⟩
            · have hjl' : j = l.length := by omega
              have hm1 := hmet.out
              rw [hjl', hm1]
              clear hjl'
              by_cases ht0 : 0 ≤ t
              · have hf : (endL l t == 3) = false := hfe.out ht0
                go_wp2_with (go_at_call 23; refine (impl_EndOf_any _ _ _ _ _ HM.out HC.out (R6.out.on HI.out)).mono ?_; rintro e w7 ⟨rfl, hb7⟩; rw [HEV.out])
                exact ⟨⟨k + 1, by omega, by go_num, by have hbw := HB.out; have hbi := HI.out; exact Below.via hb7 (Below.via hbi hbw)⟩, by simp [intOf]; omega⟩
              · go_wp2_with fail
                exact ⟨⟨k + 1, by omega, by go_num, by have hbw := HB.out; have hbi := HI.out; exact Below.via hbi hbw⟩, by simp [intOf]; omega⟩
        · have h5 := B5.out
          have hbw := HB.out
          have h6 : Below w.heap.size w wr := Below.via hbw h5
          go_wp2
          go_ret
          exact ⟨rfl, h6⟩
theorem own : ownKnob Try.prog.godebug = none := by kernel_rfl
theorem laidOut : laidOutB Try.prog = true := by kernel_rfl
set_option maxRecDepth 100000 in
theorem lifted (os : Os) (started : os.Started) (H : Type) (enc : TypeId × Value → H) :
    ReturnsInHanded {} Try.checked os 10 .any (Rows.fnFinalsOfSpec.pre6 enc Try.prog Try.f10 Rows.fnFinalsOfRow.domain false) (Rows.fnFinalsOfSpec.post enc Try.prog Try.f10 false true false false) := by
  refine returnsInHanded_of_change (C := Try.checked) own started (by kernel_rfl) Try.func10
    (ChangeSpec.witness6 (enc := enc) (C := Try.checked) false ⟨#[], #[.slice none 0 0], []⟩ 8 (by kernel_rfl) (by kernel_rfl) (by kernel_rfl) (by kernel_rfl)) ?_
  intro W base args ds gs before hval0 hW hcnd _
  have hval : ∀ (j : Nat) t v, Try.f10.params[j]? = some t → args[j]? = some v → Value.okWide Try.prog W .any base t v := hval0
  have hW' := hW
  obtain ⟨p, q, hA0, hV, rfl, hfz, hnd⟩ := hW
  have hA : DataW.TrodAll enc Try.prog W 0 (fun _ => true) true Try.f10.params.toList args.toList ds p := hA0
  rw [Try.params10] at hA hval
  obtain ⟨v0, vs0, d0, ds0, p0, q0, hargs, rfl, rfl, h0, r0⟩ := trodAll_cons hA
  obtain ⟨rfl, rfl, rfl⟩ := trodAll_nil r0
  obtain rfl : args = #[v0] := by cases args; simp_all
  obtain ⟨rfl, rfl⟩ := trodVars_none hV
  have k0 := h0
  have lt0 : ∀ x ∈ p0, x.block < W.heap.size := by obtain ⟨m, hm⟩ := k0; exact DataW.trod_lt m _ _ _ hm
  obtain ⟨A0, c0, n0, rfl, hc0, hl0, hR0⟩ := open_bytes Try.underlying22 Try.underlying5 (by kernel_rfl) (hval 0 22 v0 rfl rfl) h0
  clear hA0 hval0
  refine (walk A0 c0 n0 W hc0 hl0 hR0).mono fun e W' ⟨he, bel⟩ => ?_
  subst he
  exact ⟨_, rfl, _, _, _, [], _, [], hW', trodAll_mk1 (shut_bool Try.underlying4 _), (trodAll_cons_mk (Below.trod laidOut (by kernel_rfl) (of_decide_eq_true (by kernel_rfl)) k0 bel lt0) trodAll_mk0), rfl, bel.frame _, fun h => by cases h⟩
theorem holds : Rows.FnFinalsOfSaid :=
  OpenClaim.holds_of_wide 10 Try.f10 rfl rfl rfl rfl rfl rfl rfl ⟨rfl, rfl, rfl, rfl, rfl⟩ rfl rfl rfl rfl rfl (by kernel_rfl) Try.func10 (by kernel_rfl)
    (of_decide_eq_true (by kernel_rfl)) (by unfold Func.isWrapper; rw [if_neg (of_decide_eq_false (by kernel_rfl))]; exact ⟨rfl, rfl⟩)
    (fun os started H enc _ => lifted os started H enc)
#print axioms holds
end Go.Proofs.Ytlcaadjlghbcpaa.dfinalsOf
