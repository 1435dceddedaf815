/- The law FnReadsOf answers true: Each of ReadsOf is -1 or a transaction with an OpWrite of the item ahead. No condition. -/
import Derived.Test.YtlcaadjlghbcpaaRows
import Derived.Test.YtlcaadjlghbcpaaSome
import Derived.Test.YtlcaadjlghbcpaaPl
import Derived.Test.YtlcaadjlghbcpaaLawsD
namespace Go.Proofs.Ytlcaadjlghbcpaa.dreadsOf
set_option linter.unusedSimpArgs false
set_option linter.unusedVariables false
open Go.ChangeShapes Go.WideShapes Go.ChangeAt Go.RowKit
theorem any_take_succ {α : Type} (p : α → Bool) {l : List α} {j : Nat} (hj : j < l.length) : (l.take (j + 1)).any p = ((l.take j).any p || p l[j]) := by
  rw [List.take_succ_eq_append_getElem hj, List.any_append]; simp
/-- A transaction that is -1 or writes the item in one of the first j operations. -/
def metB (l : List O3) (t x : Int) (j : Nat) : Bool := (t == -1) || (l.take j).any (fun o => O3.eqb o ⟨t, 1, x⟩)
theorem met_yes {l : List O3} {t x : Int} {j : Nat} (hj : j < l.length) (h : metB l t x j = true) : metB l t x (j + 1) = true := by
  unfold metB at *
  rw [any_take_succ _ hj, ← Bool.or_assoc, h, Bool.true_or]
theorem met_no {l : List O3} {t x : Int} {j : Nat} (hj : j < l.length) (h : metB l t x j = false) : metB l t x (j + 1) = O3.eqb l[j] ⟨t, 1, x⟩ := by
  unfold metB at *
  rw [any_take_succ _ hj, ← Bool.or_assoc, h, Bool.false_or]
theorem met_src {l : List O3} {i : Nat} (hi : i < l.length) : metB l (srcI l i) l[i].item i = true := by
  rcases srcAt_cases (fun o => o.kind == 1 && (o.item == itemAt l i && !(endL (l.take i) o.tx == 3))) l i with h | ⟨j, hj, hji, h1, h2⟩
  · unfold metB srcI; rw [h]; rfl
  · unfold metB srcI
    rw [h2, Bool.or_eq_true, List.any_eq_true]
    refine .inr ⟨l[j], take_mem.2 ⟨j, hj, hji, rfl⟩, ?_⟩
    simp only [Bool.and_eq_true, beq_iff_eq, itemAt_eq hi] at h1
    simp [O3.eqb, h1.1, h1.2.1]
set_option maxHeartbeats 4000000 in
theorem walk (A : Option Addr) (c n : Nat) (w : World) (hc : n ≤ c) (hl : n ≤ maxLen) (hR : RdB w w.heap.size A n) :
    Calls Try.prog 9 #[.slice A n c] w fun e w' => e = .returned (.bool true) ∧ Below w.heap.size w w' := by
  have HL := Lib.hid hl
  unfold maxLen at hl
  by_cases hbig : (1048576 : Int) < n
  · go_enter Try.func9, Try.ntmps9
    go_wp2
    go_ret
    exact ⟨rfl, Below.refl _ _⟩
  · go_enter Try.func9, Try.ntmps9
    go_wp2_with fail
    refine (DrawReadsOf_any A c n _ hc HL.out hR).mono ?_
    rintro e w1 ⟨⟨A1, c1, l, rfl, hl1, hc1, hR1⟩, hb1⟩
    have HM := Lib.hid (show l.length ≤ maxLen by unfold maxLen; omega)
    have HR := Lib.hid hR1; clear hR1
    have HC := Lib.hid hc1; clear hc1
    go_wp2_with fail
    refine (impl_ReadsOf_any _ _ _ _ (by omega) HC.out HR.out).mono ?_
    rintro e w2 ⟨⟨v2, rfl, hO2⟩, hb2⟩
    have R2 := Lib.hid (HR.out.on hb2)
    go_wp2_with fail
    refine (spec_ReadsOf_any _ _ _ _ (by omega) HC.out R2.out).mono ?_
    rintro e w3 ⟨⟨v3, rfl, hO3⟩, hb3⟩
    have R3 := Lib.hid (R2.out.on hb3)
    have O2 := Lib.hid (hO2.on hb3)
    have B3 := Lib.hid (show Below w.heap.size w w3 by (repeat' (first | (with_reducible exact Below.refl _ _) | (with_reducible assumption) | (with_reducible refine Below.al ?_ _) | (with_reducible refine Below.drew ?_) | (with_reducible refine Below.drN ?_ _) | (with_reducible refine Below.via (by with_reducible assumption) ?_) | (with_reducible refine Below.setc ?_ ?_ _) | (with_reducible exact Nat.le_refl _) | (simp; done) | (simp; omega))))
    obtain ⟨A2, c2, rfl, ⟨hc2, hm2⟩, _, _⟩ := hO2.reads
    obtain ⟨A3, c3, rfl, _, hR3', _⟩ := hO3.reads
    have hcl := readsV_len l (by omega)
    clear hb1 hb2 hb3 hO2 hO3
    go_wp2_with fail
    refine (equalInts_any A2 A3 c2 c3 (readsV l) _ hcl O2.out.rd hR3').mono ?_
    rintro e w4 ⟨rfl, hb4⟩
    have B4 := Lib.hid (show Below w.heap.size w w4 by have h3 := B3.out; (repeat' (first | (with_reducible exact Below.refl _ _) | (with_reducible assumption) | (with_reducible refine Below.al ?_ _) | (with_reducible refine Below.drew ?_) | (with_reducible refine Below.drN ?_ _) | (with_reducible refine Below.via (by with_reducible assumption) ?_) | (with_reducible refine Below.setc ?_ ?_ _) | (with_reducible exact Nat.le_refl _) | (simp; done) | (simp; omega))))
    have R4 := Lib.hid (R3.out.on hb4)
    have O4 := Lib.hid (O2.out.on hb4)
    clear hb4 hR3' O2 R3 B3
    cases hv : tt (ValidP l)
    · have HV := Lib.hid hv; clear hv
      go_wp2_with fail
      refine (impl_ValidSchedule_any _ _ _ _ HM.out HC.out R4.out).mono ?_
      rintro e w5 ⟨rfl, hb5⟩
      rw [HV.out]
      go_wp2_with fail
      refine (spec_ReadsOf_any _ _ _ _ (by omega) HC.out (R4.out.on hb5)).mono ?_
      rintro e w6 ⟨⟨v6, rfl, hO6⟩, hb6⟩
      obtain ⟨A6, c6, rfl, _, hR6, _⟩ := hO6.reads
      go_wp2_with fail
      refine (equalInts_any A2 A6 c2 c6 (readsV l) _ hcl ((O4.out.on hb5).on hb6).rd hR6).mono ?_
      rintro e w7 ⟨rfl, hb7⟩
      have h4 := B4.out
      go_wp2
      go_ret
      exact ⟨rfl, by (repeat' (first | (with_reducible exact Below.refl _ _) | (with_reducible assumption) | (with_reducible refine Below.al ?_ _) | (with_reducible refine Below.drew ?_) | (with_reducible refine Below.drN ?_ _) | (with_reducible refine Below.via (by with_reducible assumption) ?_) | (with_reducible refine Below.setc ?_ ?_ _) | (with_reducible exact Nat.le_refl _) | (simp; done) | (simp; omega)))⟩
    · have HV := Lib.hid hv
      have hP : ValidP l := tt_eq.1 hv
      clear hv
      have hcv : readsV l = readsTo (srcI l) l l.length := by unfold readsV; rw [HV.out]; rfl
      have hle := readsTo_le (srcI l) l l.length
      rw [hcv] at O4 hm2 hc2 hcl ⊢; clear hcv
      go_wp2_with fail
      refine (impl_ValidSchedule_any _ _ _ _ HM.out HC.out R4.out).mono ?_
      rintro e w5 ⟨rfl, hb5⟩
      rw [HV.out]
      have B5 := Lib.hid (show Below w.heap.size w w5 by have h3 := B4.out; (repeat' (first | (with_reducible exact Below.refl _ _) | (with_reducible assumption) | (with_reducible refine Below.al ?_ _) | (with_reducible refine Below.drew ?_) | (with_reducible refine Below.drN ?_ _) | (with_reducible refine Below.via (by with_reducible assumption) ?_) | (with_reducible refine Below.setc ?_ ?_ _) | (with_reducible exact Nat.le_refl _) | (simp; done) | (simp; omega))))
      have R5 := Lib.hid (R4.out.on hb5)
      have O5 := Lib.hid (O4.out.on hb5)
      clear hb5 R4 O4 B4
      go_wp2_with fail
      go_loopw [5, 6] (fun m i wr => ∃ k : Nat, k ≤ l.length ∧ i = .int .i64 k ∧ m = .int .i64 (readsTo (srcI l) l k).length ∧ Below w5.heap.size w5 wr) (fun _ i _ => l.length - (intOf i).toNat)
      case atStart => exact ⟨0, Nat.zero_le _, rfl, rfl, Below.refl _ _⟩
      case round =>
        obtain ⟨k, hk, rfl, rfl, hbw⟩ := hrel
        have HB := Lib.hid hbw; clear hbw
        have O6 := Lib.hid (O5.out.on HB.out)
        have R6 := Lib.hid (R5.out.on HB.out)
        have hrk := readsTo_le (srcI l) l k
        by_cases hlt : k < l.length
        · obtain ⟨b, off, rfl, hb, q0, q1, q2⟩ := R6.out.at_ hlt
          cases e0 : (l[k].kind == 0)
          · have HS := Lib.hid (readsTo_no (F := srcI l) hlt e0)
            have e0' : (l[k].kind != 0) = true := by rw [bne, e0]; rfl
            clear e0
            go_wp2_with fail
            exact ⟨⟨k + 1, by omega, by go_num, by rw [HS.out], HB.out⟩, by simp [intOf]; omega⟩
          · have HS := Lib.hid (readsTo_yes (F := srcI l) hlt e0)
            have e0' : (l[k].kind != 0) = false := by rw [bne, e0]; rfl
            have hget := readsTo_get (srcI l) hlt e0 l.length hlt (Nat.le_refl _)
            obtain ⟨hgl, hge⟩ := List.getElem?_eq_some_iff.1 hget
            obtain ⟨b2, off2, he2, hb2, p0⟩ := O6.out.rd.at_ hgl
            subst he2
            rw [hge] at p0
            have hmet := Lib.hid (met_src hlt)
            clear e0 hget hge
            obtain ⟨wo, hwo⟩ : ∃ wo : World, wo = wr := ⟨_, rfl⟩
            subst hwo
            have HT := Lib.hid (show (srcI l k == -1) = metB l (srcI l k) l[k].item 0 by unfold metB; simp)
            generalize hsr : srcI l k = t at *
            clear hsr
            generalize hit : l[k].item = x at *
            clear hit
            have hnle : ((readsTo (srcI l) l l.length).length ≤ (readsTo (srcI l) l k).length) = False := by simp; omega
            have hdec : decide ((readsTo (srcI l) l l.length).length ≤ (readsTo (srcI l) l k).length) = false := by simp; omega
            go_wp2_with fail
            rw [HT.out]
            try rw [hdec]
            clear hnle hdec
            go_loopw [7, 8] (fun v7 v8 wr => ∃ j : Nat, j ≤ k ∧ v8 = .int .i64 j ∧ v7 = .bool (metB l t x j) ∧ Below wo.heap.size wo wr) (fun _ v8 _ => k - (intOf v8).toNat)
            case atStart => exact ⟨0, Nat.zero_le _, rfl, rfl, Below.refl _ _⟩
            case round =>
              obtain ⟨j, hj, rfl, rfl, hbi⟩ := hrel
              have HI := Lib.hid hbi; clear hbi
              by_cases hjk : j < k
              · have hjl : j < l.length := by omega
                obtain ⟨b', off', he, hb', s0, s1, s2⟩ := (R6.out.on HI.out).at_ hjl
                injection he with he; injection he with he1 he2
                subst he1 he2
                obtain ⟨hbc, hbf, hbz⟩ := bcell HI.out
                cases em : metB l t x j
                · have HM2 := Lib.hid (met_no hjl em)
                  have he := em
                  go_wp2_with fail
                  ((first | (with_reducible refine wp_region_from (by with_reducible assumption) follows (by kernel_rfl) ?_) | (refine wp_region_aft follows (by kernel_rfl) ?_)); (repeat (go_big_quiet_step (fail))); refine wpQuiet_nil ?_; intro _ hw'; obtain ⟨⟨w1, hb⟩, rfl⟩ := hw'; (try dsimp only); first | (replace hb := Below.via hb (by with_reducible assumption); (try clear hbc hbf hbz); obtain ⟨hbc, hbf, hbz⟩ := bcell hb) | (obtain ⟨hbc, hbf, hbz⟩ := bcell hb))
                  go_wp2
                  exact ⟨⟨j + 1, by omega, by go_num, by rw [HM2.out], by have hbi := HI.out; (repeat' (first | (with_reducible exact Below.refl _ _) | (with_reducible assumption) | (with_reducible refine Below.al ?_ _) | (with_reducible refine Below.drew ?_) | (with_reducible refine Below.drN ?_ _) | (with_reducible refine Below.via (by with_reducible assumption) ?_) | (with_reducible refine Below.setc ?_ ?_ _) | (with_reducible exact Nat.le_refl _) | (simp; done) | (simp; omega)))⟩, by simp [intOf]; omega⟩
                · have HM2 := Lib.hid (met_yes hjl em)
                  go_wp2_with fail
                  ((first | (with_reducible refine wp_region_from (by with_reducible assumption) follows (by kernel_rfl) ?_) | (refine wp_region_aft follows (by kernel_rfl) ?_)); (repeat (go_big_quiet_step (fail))); refine wpQuiet_nil ?_; intro _ hw'; obtain ⟨⟨w1, hb⟩, rfl⟩ := hw'; (try dsimp only); first | (replace hb := Below.via hb (by with_reducible assumption); (try clear hbc hbf hbz); obtain ⟨hbc, hbf, hbz⟩ := bcell hb) | (obtain ⟨hbc, hbf, hbz⟩ := bcell hb))
                  go_wp2
                  exact ⟨⟨j + 1, by omega, by go_num, by rw [HM2.out], by have hbi := HI.out; (repeat' (first | (with_reducible exact Below.refl _ _) | (with_reducible assumption) | (with_reducible refine Below.al ?_ _) | (with_reducible refine Below.drew ?_) | (with_reducible refine Below.drN ?_ _) | (with_reducible refine Below.via (by with_reducible assumption) ?_) | (with_reducible refine Below.setc ?_ ?_ _) | (with_reducible exact Nat.le_refl _) | (simp; done) | (simp; omega)))⟩, by simp [intOf]; omega⟩
              · have hjk' : j = k := by omega
                subst hjk'
                have hm1 := hmet.out
                go_wp2_with fail
                exact ⟨⟨j + 1, by omega, by go_num, by rw [HS.out, List.length_append]; go_num, by have hbw := HB.out; have hbi := HI.out; exact Below.via hbi hbw⟩, by simp [intOf]; omega⟩
        · have hk' : k = l.length := by omega
          have h5 := B5.out
          have hbw := HB.out
          have h6 : Below w.heap.size w wr := Below.via hbw h5
          subst hk'
          go_wp2
          go_ret
          exact ⟨rfl, h6⟩
theorem own : ownKnob Try.prog.godebug = none := by kernel_rfl
theorem laidOut : laidOutB Try.prog = true := by kernel_rfl
set_option maxRecDepth 100000 in
theorem lifted (os : Os) (started : os.Started) (H : Type) (enc : TypeId × Value → H) :
    ReturnsInHanded {} Try.checked os 9 .any (Rows.fnReadsOfSpec.pre6 enc Try.prog Try.f9 Rows.fnReadsOfRow.domain false) (Rows.fnReadsOfSpec.post enc Try.prog Try.f9 false true false false) := by
  refine returnsInHanded_of_change (C := Try.checked) own started (by kernel_rfl) Try.func9
    (ChangeSpec.witness6 (enc := enc) (C := Try.checked) false ⟨#[], #[.slice none 0 0], []⟩ 8 (by kernel_rfl) (by kernel_rfl) (by kernel_rfl) (by kernel_rfl)) ?_
  intro W base args ds gs before hval0 hW hcnd _
  have hval : ∀ (j : Nat) t v, Try.f9.params[j]? = some t → args[j]? = some v → Value.okWide Try.prog W .any base t v := hval0
  have hW' := hW
  obtain ⟨p, q, hA0, hV, rfl, hfz, hnd⟩ := hW
  have hA : DataW.TrodAll enc Try.prog W 0 (fun _ => true) true Try.f9.params.toList args.toList ds p := hA0
  rw [Try.params9] at hA hval
  obtain ⟨v0, vs0, d0, ds0, p0, q0, hargs, rfl, rfl, h0, r0⟩ := trodAll_cons hA
  obtain ⟨rfl, rfl, rfl⟩ := trodAll_nil r0
  obtain rfl : args = #[v0] := by cases args; simp_all
  obtain ⟨rfl, rfl⟩ := trodVars_none hV
  have k0 := h0
  have lt0 : ∀ x ∈ p0, x.block < W.heap.size := by obtain ⟨m, hm⟩ := k0; exact DataW.trod_lt m _ _ _ hm
  obtain ⟨A0, c0, n0, rfl, hc0, hl0, hR0⟩ := open_bytes Try.underlying22 Try.underlying5 (by kernel_rfl) (hval 0 22 v0 rfl rfl) h0
  clear hA0 hval0
  refine (walk A0 c0 n0 W hc0 hl0 hR0).mono fun e W' ⟨he, bel⟩ => ?_
  subst he
  exact ⟨_, rfl, _, _, _, [], _, [], hW', trodAll_mk1 (shut_bool Try.underlying4 _), (trodAll_cons_mk (Below.trod laidOut (by kernel_rfl) (of_decide_eq_true (by kernel_rfl)) k0 bel lt0) trodAll_mk0), rfl, bel.frame _, fun h => by cases h⟩
theorem holds : Rows.FnReadsOfSaid :=
  OpenClaim.holds_of_wide 9 Try.f9 rfl rfl rfl rfl rfl rfl rfl ⟨rfl, rfl, rfl, rfl, rfl⟩ rfl rfl rfl rfl rfl (by kernel_rfl) Try.func9 (by kernel_rfl)
    (of_decide_eq_true (by kernel_rfl)) (by unfold Func.isWrapper; rw [if_neg (of_decide_eq_false (by kernel_rfl))]; exact ⟨rfl, rfl⟩)
    (fun os started H enc _ => lifted os started H enc)
#print axioms holds
end Go.Proofs.Ytlcaadjlghbcpaa.dreadsOf
