/- Locks by a tree of items: contract of the reference's IsTreeLocked. -/
import Derived.Test.YtejipiadapggmaaTlP
namespace Go.Proofs.Ytejipiadapggmaa
set_option linter.unusedSimpArgs false
set_option linter.unusedVariables false
open Go.RowKit
theorem tk_mem {l : List O3} {t x : Int} {i k : Nat} (hi : i ≤ l.length) (hk : k < i) (h1 : (l[k]'(by omega)).tx = t) (h2 : (l[k]'(by omega)).kind = 1) (h3 : (l[k]'(by omega)).item = x) : (tkL l t i).contains x = true := by
  rw [List.contains_iff_mem]
  unfold tkL
  refine List.mem_map.2 ⟨l[k]'(by omega), List.mem_filter.2 ⟨List.mem_take_iff_getElem.2 ⟨k, by omega, rfl⟩, by simp [h1, h2]⟩, h3⟩
theorem tk_app {m : List Int} {x y : Int} (h : m.contains x = false) (hne : (y == x) = false) : (m ++ [y]).contains x = false := by
  rw [Bool.eq_false_iff] at h ⊢
  intro e
  rw [List.contains_iff_mem] at e
  rcases List.mem_append.1 e with e | e
  · exact h (List.contains_iff_mem.2 e)
  · simp at e hne; exact hne e.symm
theorem par_eq {p : List Int} {m : Nat} (h : m < p.length) : parI p m = p[m] := by unfold parI; simp [h]
theorem tl_no {l : List O3} {p : List Int} {i : Nat} (hi : i < l.length) (h : tlBad l p i = true) : tlB l p = false := tt_false fun hall => by rw [hall i hi] at h; cases h
set_option maxRecDepth 100000 in
set_option maxHeartbeats 4000000 in
theorem spec_IsTreeLocked_any (A : Option Addr) (c : Nat) (l : List O3) (A' : Option Addr) (c' : Nat) (p : List Int) (w : World) (hl : l.length ≤ 1048576) (hp : p.length ≤ 1048576) (hw : ∀ n ∈ p, (Lit.int .i64 n).wf = true) (hR : RdO w w.heap.size A l) (hR' : RdI w w.heap.size A' p) :
    Calls Try.prog 23 #[.slice A l.length c, .slice A' p.length c'] w fun e w' => e = .returned (.bool (tlV l p)) ∧ Below w.heap.size w w' := by
  have HM := Lib.hid (show l.length ≤ maxLen by unfold maxLen; omega)
  cases hv : stepsB l
  · have hs : tlV l p = false := by unfold tlV; rw [hv]; rfl
    rw [hs]
    have HV := Lib.hid hv; clear hv hs
    go_enter Try.func23, Try.ntmps23
    go_wp2_with (go_at_call 29; refine (spec_validSteps_any _ _ _ _ HM.out hR).mono ?_; rintro e w1 ⟨rfl, rfl⟩; rw [HV.out])
    go_ret
    exact ⟨rfl, Below.refl _ _⟩
  · have HV := Lib.hid hv
    cases ht : trB p
    · have hs : tlV l p = false := by unfold tlV; rw [ht]; simp
      rw [hs]
      have HT := Lib.hid ht; clear hv hs ht
      go_enter Try.func23, Try.ntmps23
      go_wp2_with fail
      refine (spec_validSteps_any _ _ l _ HM.out hR).mono ?_
      rintro e w1 ⟨rfl, rfl⟩
      rw [HV.out]
      go_wp2_with fail
      refine (spec_validTree_any _ _ p _ hp hw hR').mono ?_
      rintro e w1 ⟨rfl, rfl⟩
      rw [HT.out]
      go_wp2_with fail
      go_ret
      exact ⟨rfl, Below.refl _ _⟩
    · have hs : tlV l p = tlB l p := by unfold tlV; rw [hv, ht]; rfl
      rw [hs]
      have HT := Lib.hid ht
      have hlen := steps_len hv
      have HA := Lib.hid (steps_all hv)
      have HP := Lib.hid (tr_vals ht)
      clear hv hs ht
      have HP3 := Lib.hid HP.out.1
      go_enter Try.func23, Try.ntmps23
      go_wp2_with fail
      refine (spec_validSteps_any _ _ l _ HM.out hR).mono ?_
      rintro e w1 ⟨rfl, rfl⟩
      rw [HV.out]
      go_wp2_with fail
      refine (spec_validTree_any _ _ p _ hp hw hR').mono ?_
      rintro e w1 ⟨rfl, rfl⟩
      rw [HT.out]
      go_wp2_with fail
      go_loopw [5, 6, 7, 8] (fun v5 _ _ _ wr => ∃ i : Nat, i ≤ l.length ∧ v5 = .int .i64 i ∧ (∀ j, j < i → tlBad l p j = false) ∧ Below w.heap.size w wr) (fun v5 _ _ _ _ => l.length - (intOf v5).toNat)
      case atStart => exact ⟨0, Nat.zero_le _, rfl, fun j h => by omega, Below.refl _ _⟩
      case round =>
        obtain ⟨i, hi, rfl, hall, hbw⟩ := hrel
        have HL := Lib.hid hall; clear hall
        have HB := Lib.hid hbw; clear hbw
        by_cases hlt : i < l.length
        · have HR1 := Lib.hid (hR.on HB.out)
          obtain ⟨b, off, rfl, hb, h0, h1, h2⟩ := HR1.out.at_ hlt
          have HBE := Lib.hid (tlBad_eq (p := p) hlt)
          obtain ⟨⟨t0, t3⟩, ⟨k0, k4⟩, ⟨x0, x3⟩⟩ := steps_at HA.out hlt
          cases e0 : (l[i].kind == 0)
          · cases e1 : (l[i].kind == 1)
            · have HN := Lib.hid (show tlBad l p i = false by rw [HBE.out, e0, e1]; rfl)
              have e1' : (l[i].kind != 1) = true := by rw [bne, e1]; rfl
              clear e1
              go_wp2
              exact ⟨⟨i + 1, by omega, by go_num, fun j hj => by
                by_cases h : j = i
                · subst h; exact HN.out
                · exact HL.out j (by omega), HB.out⟩, by simp [intOf]; omega⟩
            · have HE := Lib.hid (show tlBad l p i = ((tkL l l[i].tx i).contains l[i].item || (!(tkL l l[i].tx i).isEmpty && (decide (parI p l[i].item < 0) || !(heldTo l l[i].tx (parI p l[i].item) i == 1)))) by rw [HBE.out, e0, e1]; rfl)
              have e1' : (l[i].kind != 1) = false := by rw [bne, e1]; rfl
              clear e1
              obtain ⟨m, hm⟩ : ∃ m : Nat, l[i].item = m := ⟨l[i].item.toNat, by omega⟩
              obtain ⟨wo, hwo⟩ : ∃ wo : World, wo = wr := ⟨_, rfl⟩
              subst hwo
              go_wp2_with fail
              go_loopw [6, 7] (fun v6 v7 wr => ∃ k : Nat, k ≤ i ∧ v7 = .int .i64 k ∧ v6 = .bool (tkL l l[i].tx k).isEmpty ∧ (tkL l l[i].tx k).contains l[i].item = false ∧ Below w.heap.size w wr) (fun _ v7 _ => i - (intOf v7).toNat)
              case atStart => exact ⟨0, Nat.zero_le _, rfl, rfl, rfl, HB.out⟩
              case round =>
                clear h0 h1 h2 e0 e1'
                obtain ⟨k, hk, rfl, rfl, hcon, hbw⟩ := hrel
                have HC := Lib.hid hcon; clear hcon
                have HB2 := Lib.hid hbw; clear hbw
                have HR2 := Lib.hid (hR.on HB2.out)
                obtain ⟨b', off', he, hb', s0, s1, s2⟩ := HR2.out.at_ hlt
                injection he with he; injection he with he1 he2
                subst he1 he2
                by_cases hki : k < i
                · have hkl : k < l.length := by omega
                  obtain ⟨b', off', he, hb', r0, r1, r2⟩ := HR2.out.at_ hkl
                  injection he with he; injection he with he1 he2
                  subst he1 he2
                  rcases and2 (l[k].tx == l[i].tx) (l[k].kind == 1) with e1 | ⟨e1, e2⟩ | ⟨e1, e2⟩
                  · have HN := Lib.hid (tk_no (t := l[i].tx) hkl (by rw [e1]; rfl))
                    go_wp2_with fail
                    ((first | (with_reducible refine wp_region_from (by with_reducible assumption) follows (by kernel_rfl) ?_) | (refine wp_region_aft follows (by kernel_rfl) ?_)); (repeat (go_big_quiet_step (fail))); refine wpQuiet_nil ?_; intro _ hw'; obtain ⟨⟨w1, hb⟩, rfl⟩ := hw'; (try dsimp only); first | (replace hb := Below.via hb (by with_reducible assumption); (try clear hbc hbf hbz); obtain ⟨hbc, hbf, hbz⟩ := bcell hb) | (obtain ⟨hbc, hbf, hbz⟩ := bcell hb))
                    go_wp2
                    exact ⟨⟨k + 1, by omega, by go_num, by rw [HN.out], by rw [HN.out]; exact HC.out, Below.trans HB2.out (hb.mono HB2.out.size)⟩, by simp [intOf]; omega⟩
                  · have HN := Lib.hid (tk_no (t := l[i].tx) hkl (by rw [e1, e2]; rfl))
                    go_wp2_with fail
                    ((first | (with_reducible refine wp_region_from (by with_reducible assumption) follows (by kernel_rfl) ?_) | (refine wp_region_aft follows (by kernel_rfl) ?_)); (repeat (go_big_quiet_step (fail))); refine wpQuiet_nil ?_; intro _ hw'; obtain ⟨⟨w1, hb⟩, rfl⟩ := hw'; (try dsimp only); first | (replace hb := Below.via hb (by with_reducible assumption); (try clear hbc hbf hbz); obtain ⟨hbc, hbf, hbz⟩ := bcell hb) | (obtain ⟨hbc, hbf, hbz⟩ := bcell hb))
                    go_wp2
                    exact ⟨⟨k + 1, by omega, by go_num, by rw [HN.out], by rw [HN.out]; exact HC.out, Below.trans HB2.out (hb.mono HB2.out.size)⟩, by simp [intOf]; omega⟩
                  · have f1 : l[k].tx = l[i].tx := by simpa using e1
                    have f2 : l[k].kind = 1 := by simpa using e2
                    have HN := Lib.hid (tk_yes hkl f1 f2)
                    cases e3 : (l[k].item == l[i].item)
                    · have HNC := Lib.hid (tk_app HC.out e3)
                      clear f1 f2
                      go_wp2_with fail
                      ((first | (with_reducible refine wp_region_from (by with_reducible assumption) follows (by kernel_rfl) ?_) | (refine wp_region_aft follows (by kernel_rfl) ?_)); (repeat (go_big_quiet_step (fail))); refine wpQuiet_nil ?_; intro _ hw'; obtain ⟨⟨w1, hb⟩, rfl⟩ := hw'; (try dsimp only); first | (replace hb := Below.via hb (by with_reducible assumption); (try clear hbc hbf hbz); obtain ⟨hbc, hbf, hbz⟩ := bcell hb) | (obtain ⟨hbc, hbf, hbz⟩ := bcell hb))
                      go_wp2_with fail
                      ((first | (with_reducible refine wp_region_from (by with_reducible assumption) follows (by kernel_rfl) ?_) | (refine wp_region_aft follows (by kernel_rfl) ?_)); (repeat (go_big_quiet_step (fail))); refine wpQuiet_nil ?_; intro _ hw'; obtain ⟨⟨w1, hb⟩, rfl⟩ := hw'; (try dsimp only); first | (replace hb := Below.via hb (by with_reducible assumption); (try clear hbc hbf hbz); obtain ⟨hbc, hbf, hbz⟩ := bcell hb) | (obtain ⟨hbc, hbf, hbz⟩ := bcell hb))
                      go_wp2
                      exact ⟨⟨k + 1, by omega, by go_num, by rw [HN.out]; simp, by rw [HN.out]; exact HNC.out, Below.trans HB2.out (hb.mono HB2.out.size)⟩, by simp [intOf]; omega⟩
                    · have HY := Lib.hid (show tlBad l p i = true by rw [HE.out, tk_mem hi hki f1 f2 (by simpa using e3)]; rfl)
                      clear f1 f2
                      go_wp2_with fail
                      ((first | (with_reducible refine wp_region_from (by with_reducible assumption) follows (by kernel_rfl) ?_) | (refine wp_region_aft follows (by kernel_rfl) ?_)); (repeat (go_big_quiet_step (fail))); refine wpQuiet_nil ?_; intro _ hw'; obtain ⟨⟨w1, hb⟩, rfl⟩ := hw'; (try dsimp only); first | (replace hb := Below.via hb (by with_reducible assumption); (try clear hbc hbf hbz); obtain ⟨hbc, hbf, hbz⟩ := bcell hb) | (obtain ⟨hbc, hbf, hbz⟩ := bcell hb))
                      go_wp2_with fail
                      ((first | (with_reducible refine wp_region_from (by with_reducible assumption) follows (by kernel_rfl) ?_) | (refine wp_region_aft follows (by kernel_rfl) ?_)); (repeat (go_big_quiet_step (fail))); refine wpQuiet_nil ?_; intro _ hw'; obtain ⟨⟨w1, hb⟩, rfl⟩ := hw'; (try dsimp only); first | (replace hb := Below.via hb (by with_reducible assumption); (try clear hbc hbf hbz); obtain ⟨hbc, hbf, hbz⟩ := bcell hb) | (obtain ⟨hbc, hbf, hbz⟩ := bcell hb))
                      go_wp2
                      go_ret
                      exact ⟨ret_bool (tl_no hlt HY.out).symm, Below.trans HB2.out (hb.mono HB2.out.size)⟩
                · have hk' : k = i := by omega
                  subst hk'
                  have hmp : m < p.length := by rw [HP3.out]; omega
                  have HPR := Lib.hid (hR'.on HB2.out)
                  obtain ⟨bp, offp, rfl, hbp, u0⟩ := HPR.out.at_ hmp
                  have HPI := Lib.hid (show parI p l[k].item = p[m] by rw [hm]; exact par_eq hmp)
                  have HMM := Lib.hid hm
                  rw [hm] at s2
                  have hm3 : (m : Int) < 3 := by omega
                  have hpl : (m : Int) < (p.length : Int) := by omega
                  clear hm
                  cases e2 : (tkL l l[k].tx k).isEmpty
                  · by_cases e3 : p[m] < 0
                    · have HY := Lib.hid (show tlBad l p k = true by rw [HE.out, HC.out, e2, HPI.out]; simp [e3])
                      have HE2 := Lib.hid e2
                      clear e2
                      go_wp2_with fail
                      go_ret
                      exact ⟨ret_bool (tl_no hlt HY.out).symm, HB2.out⟩
                    · cases e4 : (heldTo l l[k].tx p[m] k == 1)
                      · have HY := Lib.hid (show tlBad l p k = true by rw [HE.out, HC.out, e2, HPI.out, e4]; simp)
                        have e4' : (heldTo l l[k].tx p[m] k != 1) = true := by rw [bne, e4]; rfl
                        clear e2 e4
                        go_wp2_with (go_at_call 49; refine (spec_held_any _ _ l k _ _ _ hi HM.out HR2.out).mono ?_; rintro e w2 ⟨rfl, rfl⟩)
                        go_ret
                        exact ⟨ret_bool (tl_no hlt HY.out).symm, HB2.out⟩
                      · have HN := Lib.hid (show tlBad l p k = false by rw [HE.out, HC.out, e2, HPI.out, e4]; simp [e3])
                        have e4' : (heldTo l l[k].tx p[m] k != 1) = false := by rw [bne, e4]; rfl
                        clear e2 e4
                        go_wp2_with (go_at_call 49; refine (spec_held_any _ _ l k _ _ _ hi HM.out HR2.out).mono ?_; rintro e w2 ⟨rfl, rfl⟩)
                        exact ⟨⟨k + 1, by omega, by go_num, fun j hj => by
                          by_cases h : j = k
                          · subst h; exact HN.out
                          · exact HL.out j (by omega), HB2.out⟩, by simp [intOf]; omega⟩
                  · have HN := Lib.hid (show tlBad l p k = false by rw [HE.out, HC.out, e2]; rfl)
                    clear e2
                    go_wp2_with fail
                    exact ⟨⟨k + 1, by omega, by go_num, fun j hj => by
                      by_cases h : j = k
                      · subst h; exact HN.out
                      · exact HL.out j (by omega), HB2.out⟩, by simp [intOf]; omega⟩
          · have HY := Lib.hid (show tlBad l p i = true by rw [HBE.out, e0]; rfl)
            go_wp2
            go_ret
            exact ⟨ret_bool (tl_no hlt HY.out).symm, HB.out⟩
        · go_wp2
          go_ret
          exact ⟨ret_bool (tt_true (fun j hj => HL.out j (by omega))).symm, HB.out⟩
end Go.Proofs.Ytejipiadapggmaa
