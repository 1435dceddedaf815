/- PointsOf: the plain side, and the reference's contract. -/
import Derived.Test.YtejipiadapggmaaSteps
import Derived.Test.YtejipiadapggmaaTxs
import Derived.RegionTactic
import Derived.StillTailTactics
namespace Go.Proofs.Ytejipiadapggmaa
set_option linter.unusedSimpArgs false
set_option linter.unusedVariables false
open Go.RowKit

/-- o is its transaction's last step that takes a lock: none such in r. -/
def lastOf (o : O3) (r : List O3) : Bool := decide (o.kind ≤ 1) && r.all fun u => !(u.tx == o.tx) || decide (1 < u.kind)
def ptR : List O3 → List Int
  | [] => []
  | o :: r => if lastOf o r then o.tx :: ptR r else ptR r
theorem ptR_cons (o : O3) (r : List O3) : ptR (o :: r) = if lastOf o r = true then o.tx :: ptR r else ptR r := rfl
theorem ptR_le : ∀ l, (ptR l).length ≤ l.length
  | [] => Nat.le_refl _
  | o :: r => by
    have := ptR_le r
    unfold ptR; split <;> simp <;> omega
theorem ptR_mem (t : Int) : ∀ l, t ∈ ptR l ↔ ∃ u ∈ l, u.kind ≤ 1 ∧ u.tx = t
  | [] => by simp [ptR]
  | o :: r => by
    have ih := ptR_mem t r
    unfold ptR
    cases e : lastOf o r
    · rw [if_neg (by simp), ih]
      constructor
      · rintro ⟨u, h1, h2⟩; exact ⟨u, List.mem_cons_of_mem _ h1, h2⟩
      · rintro ⟨u, h1, h2, h3⟩
        rcases List.mem_cons.1 h1 with rfl | h1
        · by_cases hall : r.all (fun v => !(v.tx == u.tx) || decide (1 < v.kind)) = true
          · rw [lastOf, hall] at e; simp [h2] at e
          · rw [Bool.not_eq_true, List.all_eq_false] at hall
            obtain ⟨v, hv, hn⟩ := hall
            simp at hn
            exact ⟨v, hv, hn.2, by rw [hn.1, h3]⟩
        · exact ⟨u, h1, h2, h3⟩
    · rw [if_pos rfl, List.mem_cons, ih]
      have hk : o.kind ≤ 1 := by simp [lastOf] at e; exact e.1
      constructor
      · rintro (rfl | ⟨u, h1, h2⟩)
        · exact ⟨o, List.mem_cons_self, hk, rfl⟩
        · exact ⟨u, List.mem_cons_of_mem _ h1, h2⟩
      · rintro ⟨u, h1, h2, h3⟩
        rcases List.mem_cons.1 h1 with rfl | h1
        · exact .inl h3.symm
        · exact .inr ⟨u, h1, h2, h3⟩
theorem last_iff (o : O3) (r : List O3) : lastOf o r = (decide (o.kind ≤ 1) && !(ptR r).contains o.tx) := by
  rw [Bool.eq_iff_iff]
  simp only [lastOf, Bool.and_eq_true, decide_eq_true_eq, List.all_eq_true, Bool.not_eq_true', List.contains_eq_mem, decide_eq_false_iff_not, ptR_mem]
  constructor
  · rintro ⟨h1, h2⟩
    refine ⟨h1, fun ⟨u, hu, hk, ht⟩ => ?_⟩
    have := h2 u hu
    simp [ht] at this
    omega
  · rintro ⟨h1, h2⟩
    refine ⟨h1, fun u hu => ?_⟩
    by_cases ht : u.tx = o.tx
    · have : ¬ u.kind ≤ 1 := fun hk => h2 ⟨u, hu, hk, ht⟩
      simp [ht]; omega
    · simp [ht]

def takesP (o : O3) : Bool := o.kind == 0 || o.kind == 1
/-- What the program collects, from the last step to the first. -/
def colS (acc : List Int) (o : O3) : List Int := if (takesP o && !acc.contains o.tx) = true then acc ++ [o.tx] else acc
def colF (l : List O3) : List Int := l.foldl colS []
theorem colF_snoc (l : List O3) (o : O3) : colF (l ++ [o]) = colS (colF l) o := by simp [colF]
theorem colS_le (acc : List Int) (o : O3) : (colS acc o).length ≤ acc.length + 1 := by unfold colS; split <;> simp
theorem colF_le (l : List O3) : (colF l).length ≤ l.length := by
  have : ∀ (l : List O3) (acc : List Int), (l.foldl colS acc).length ≤ acc.length + l.length := by
    intro l
    induction l with
    | nil => intro acc; simp
    | cons o r ih => intro acc; have := ih (colS acc o); have := colS_le acc o; simp; omega
  simpa [colF] using this l []
theorem takesP_eq {o : O3} (h : stepB o = true) : takesP o = decide (o.kind ≤ 1) := by
  simp [stepB, inR] at h
  rw [Bool.eq_iff_iff]
  simp [takesP]
  omega
theorem col_pt : ∀ l : List O3, l.all stepB = true → (colF l.reverse).reverse = ptR l
  | [], _ => rfl
  | o :: r, h => by
    simp only [List.all_cons, Bool.and_eq_true] at h
    have ih := col_pt r h.2
    have hm : (colF r.reverse).contains o.tx = (ptR r).contains o.tx := by rw [← ih]; simp
    rw [List.reverse_cons, colF_snoc, colS, hm, takesP_eq h.1, ← last_iff]
    unfold ptR
    cases lastOf o r
    · rw [if_neg (by simp), if_neg (by simp), ih]
    · rw [if_pos rfl, if_pos rfl, List.reverse_append, ih]; rfl
/-- PointsOf's value. -/
def ptV (l : List O3) : List Int := if stepsB l = true then ptR l else []
theorem ptV_len (l : List O3) (hl : l.length ≤ 1048576) : (ptV l).length ≤ 1048576 := by
  unfold ptV; split
  · have := ptR_le l; omega
  · simp
set_option maxHeartbeats 1000000 in
theorem spec_PointsOf_any (A : Option Addr) (c : Nat) (l : List O3) (w : World) (hl : l.length ≤ 1048576) (hR : RdO w w.heap.size A l) :
    Calls Try.prog 8 #[.slice A l.length c] w fun e w' => (∃ v, e = .returned v ∧ OwnI w' w.heap.size 3 v (ptV l)) ∧ Below w.heap.size w w' := by
  obtain ⟨i0, hi0, hz0, hz1, hz2⟩ := info_parts info_I
  have HM := Lib.hid (show l.length ≤ maxLen by unfold maxLen; omega)
  rcases Bool.eq_false_or_eq_true (stepsB l) with hv | hv
  all_goals have HV := Lib.hid hv; clear hv
  · have h40 : l.length ≤ 40 := by have h := HV.out; simp [stepsB] at h; exact h.2
    go_enter Try.func8, Try.ntmps8
    go_wp2_with (go_at_call 29; refine (spec_validSteps_any _ _ _ _ HM.out hR).mono ?_; rintro e w1 ⟨rfl, rfl⟩; rw [HV.out])
    have hbw0 : Below w.heap.size w (w.alloc (Obj.cells #[] 3)) := by (repeat' (first | (with_reducible exact Below.refl _ _) | (with_reducible assumption) | (with_reducible refine Below.al ?_ _) | (with_reducible refine Below.drew ?_) | (with_reducible refine Below.drN ?_ _) | (with_reducible refine Below.via (by with_reducible assumption) ?_) | (with_reducible refine Below.setc ?_ ?_ _) | (with_reducible exact Nat.le_refl _) | (simp; done) | (simp; omega)))
    have hO0 : AppI (w.alloc (Obj.cells #[] 3)) w.heap.size 3 (.slice (some ⟨w.heap.size, 0, none⟩) 0 0) [] := AppI.made (Nat.le_refl _) _ _ (by simp [maxLen]) rfl
    go_loopw [3, 4, 5, 6] (fun v i u1 u2 wr => ∃ (k : Nat) (A' : Option Addr) (c' : Nat) (acc : List Int), k ≤ l.length ∧ i = .int .i64 k ∧ v = .slice A' acc.length c' ∧ AppI wr w.heap.size 3 (.slice A' acc.length c') acc ∧ acc ++ ptR (l.drop k) = ptR l ∧ Below w.heap.size w wr) (fun _ i _ _ _ => l.length - (intOf i).toNat)
    case atStart => exact ⟨0, _, _, [], Nat.zero_le _, rfl, rfl, hO0, rfl, hbw0⟩
    case round =>
      obtain ⟨k, A', c', acc, hk, rfl, rfl, hown, hacc, hbw⟩ := hrel
      have HO := Lib.hid hown; clear hown hO0
      have HB := Lib.hid hbw; clear hbw hbw0
      have HA := Lib.hid hacc; clear hacc
      by_cases hlt : k < l.length
      · have HL := Lib.hid (show acc.length ≤ 4194304 by have h1 := congrArg List.length HA.out; have h2 := ptR_le l; rw [List.length_append] at h1; omega)
        have hBs : w.heap.size ≤ wr.heap.size := HB.out.size
        have hdrop := List.drop_eq_getElem_cons hlt
        have HD := Lib.hid hdrop; clear hdrop
        obtain ⟨wo, hwo⟩ : ∃ wo : World, wo = wr := ⟨_, rfl⟩
        subst hwo
        obtain ⟨b, off, rfl, hb, h0, h1, h2⟩ := (hR.on HB.out).at_ hlt
        go_wp2_with fail
        go_loopw [5, 6] (fun p i wr => ∃ (j : Nat) (pb : Bool), j ≤ l.length ∧ k < j ∧ i = .int .i64 j ∧ p = .bool pb ∧ (pb && (l.drop j).all fun u => !(u.tx == l[k].tx) || decide (1 < u.kind)) = lastOf l[k] (l.drop (k + 1)) ∧ Below wo.heap.size wo wr) (fun _ i _ => l.length - (intOf i).toNat)
        case atStart => exact ⟨k + 1, decide (l[k].kind ≤ 1), by omega, by omega, by go_num, rfl, rfl, Below.refl _ _⟩
        case round =>
          obtain ⟨j, pb, hj, hkj, rfl, rfl, hin, hbw⟩ := hrel
          have HI := Lib.hid hin; clear hin
          have HW := Lib.hid hbw; clear hbw
          by_cases hjt : j < l.length
          · have hdj := List.drop_eq_getElem_cons hjt
            have HI2 := Lib.hid (show (pb && ((!(l[j].tx == l[k].tx) || decide (1 < l[j].kind)) && (l.drop (j + 1)).all fun u => !(u.tx == l[k].tx) || decide (1 < u.kind))) = lastOf l[k] (l.drop (k + 1)) by rw [← HI.out, hdj]; rfl)
            clear hdj HI
            obtain ⟨b1, off1, e', hb', h0', h1', h2'⟩ := ((hR.on HB.out).on HW.out).at_ hjt
            obtain ⟨b2, off2, e2', hb2', h0'', h1'', h2''⟩ := ((hR.on HB.out).on HW.out).at_ hlt
            simp only [Option.some.injEq, Addr.mk.injEq, and_true] at e' e2'
            obtain ⟨rfl, rfl⟩ := e'
            obtain ⟨rfl, rfl⟩ := e2'
            cases pb
            · go_wp2_with fail
              ((first | (with_reducible refine wp_region_from (by with_reducible assumption) follows (by kernel_rfl) ?_) | (refine wp_region_aft follows (by kernel_rfl) ?_)); (repeat (go_big_quiet_step (fail))); refine wpQuiet_nil ?_; intro _ hw'; obtain ⟨⟨w1, hb⟩, rfl⟩ := hw'; (try dsimp only); first | (replace hb := Below.via hb (by with_reducible assumption); (try clear hbc hbf hbz); obtain ⟨hbc, hbf, hbz⟩ := bcell hb) | (obtain ⟨hbc, hbf, hbz⟩ := bcell hb))
              go_wp2
              exact ⟨⟨j + 1, false, by omega, by omega, by go_num, rfl, by simpa using HI2.out, by have hbw := HW.out; (repeat' (first | (with_reducible exact Below.refl _ _) | (with_reducible assumption) | (with_reducible refine Below.al ?_ _) | (with_reducible refine Below.drew ?_) | (with_reducible refine Below.drN ?_ _) | (with_reducible refine Below.via (by with_reducible assumption) ?_) | (with_reducible refine Below.setc ?_ ?_ _) | (with_reducible exact Nat.le_refl _) | (simp; done) | (simp; omega)))⟩, by simp [intOf]; omega⟩
            · cases e1 : (l[j].tx != l[k].tx)
              all_goals have e2 : (l[j].tx == l[k].tx) = _ := Bool.not_eq_eq_eq_not.1 e1
              all_goals have HE2 := Lib.hid e2
              all_goals clear e2
              · go_wp2_with fail
                ((first | (with_reducible refine wp_region_from (by with_reducible assumption) follows (by kernel_rfl) ?_) | (refine wp_region_aft follows (by kernel_rfl) ?_)); (repeat (go_big_quiet_step (fail))); refine wpQuiet_nil ?_; intro _ hw'; obtain ⟨⟨w1, hb⟩, rfl⟩ := hw'; (try dsimp only); first | (replace hb := Below.via hb (by with_reducible assumption); (try clear hbc hbf hbz); obtain ⟨hbc, hbf, hbz⟩ := bcell hb) | (obtain ⟨hbc, hbf, hbz⟩ := bcell hb))
                go_wp2
                exact ⟨⟨j + 1, decide (1 < l[j].kind), by omega, by omega, by go_num, rfl, by simpa [HE2.out] using HI2.out, by have hbw := HW.out; (repeat' (first | (with_reducible exact Below.refl _ _) | (with_reducible assumption) | (with_reducible refine Below.al ?_ _) | (with_reducible refine Below.drew ?_) | (with_reducible refine Below.drN ?_ _) | (with_reducible refine Below.via (by with_reducible assumption) ?_) | (with_reducible refine Below.setc ?_ ?_ _) | (with_reducible exact Nat.le_refl _) | (simp; done) | (simp; omega)))⟩, by simp [intOf]; omega⟩
              · go_wp2_with fail
                ((first | (with_reducible refine wp_region_from (by with_reducible assumption) follows (by kernel_rfl) ?_) | (refine wp_region_aft follows (by kernel_rfl) ?_)); (repeat (go_big_quiet_step (fail))); refine wpQuiet_nil ?_; intro _ hw'; obtain ⟨⟨w1, hb⟩, rfl⟩ := hw'; (try dsimp only); first | (replace hb := Below.via hb (by with_reducible assumption); (try clear hbc hbf hbz); obtain ⟨hbc, hbf, hbz⟩ := bcell hb) | (obtain ⟨hbc, hbf, hbz⟩ := bcell hb))
                go_wp2
                exact ⟨⟨j + 1, true, by omega, by omega, by go_num, rfl, by simpa [HE2.out] using HI2.out, by have hbw := HW.out; (repeat' (first | (with_reducible exact Below.refl _ _) | (with_reducible assumption) | (with_reducible refine Below.al ?_ _) | (with_reducible refine Below.drew ?_) | (with_reducible refine Below.drN ?_ _) | (with_reducible refine Below.via (by with_reducible assumption) ?_) | (with_reducible refine Below.setc ?_ ?_ _) | (with_reducible exact Nat.le_refl _) | (simp; done) | (simp; omega)))⟩, by simp [intOf]; omega⟩
          · have hj' : j = l.length := by omega
            have HJ := Lib.hid hj'; clear hj'
            have hpb : pb = lastOf l[k] (l.drop (k + 1)) := by have h := HI.out; rw [HJ.out, List.drop_length] at h; simpa using h
            have HP := Lib.hid hpb; clear hpb HI
            obtain ⟨b2, off2, e2', hb2', h0'', h1'', h2''⟩ := ((hR.on HB.out).on HW.out).at_ hlt
            simp only [Option.some.injEq, Addr.mk.injEq, and_true] at e2'
            obtain ⟨rfl, rfl⟩ := e2'
            have hB2 : w.heap.size ≤ wr.heap.size := Nat.le_trans hBs HW.out.size
            have HO2 := Lib.hid (HO.out.on HW.out)
            have HB2 := Lib.hid (HB.out.trans (HW.out.mono HB.out.size))
            cases pb
            · go_wp2
              exact ⟨⟨k + 1, A', c', acc, by omega, by go_num, rfl, HO2.out, by have h := HA.out; rw [HD.out] at h; rw [ptR_cons, ← HP.out, if_neg (by simp)] at h; exact h, HB2.out⟩, by simp [intOf]; omega⟩
            · go_wp2_with (at_builtin; refine wpList_app_i _ 24 3 i0 rfl _ _ rfl Try.underlying24 hi0 hz0 hz1 hz2 w.heap.size _ _ rfl HO2.out l[k].tx _ rfl (by first | rfl | simp) HL.out hB2 ?_; intro A2 c2 w2 hO2 hg2 hb2)
              refine ⟨⟨k + 1, A2, c2, acc ++ [l[k].tx], by omega, by go_num, ?_, ?_, ?_, HB2.out.trans hb2⟩, by simp [intOf]; omega⟩
              · simp
              · rw [List.length_append]; exact hO2
              · have h := HA.out; rw [HD.out] at h; rw [ptR_cons, ← HP.out, if_pos rfl] at h; rw [← h]; simp
      · have hk' : k = l.length := by omega
        have HK := Lib.hid hk'; clear hk'
        go_wp2
        go_ret
        have h := HA.out
        rw [HK.out, List.drop_length] at h
        refine ⟨⟨_, rfl, ?_⟩, HB.out⟩
        rw [ptV, if_pos HV.out, ← h]
        simpa [ptR] using HO.out.own
  · go_enter Try.func8, Try.ntmps8
    go_wp2_with (go_at_call 29; refine (spec_validSteps_any _ _ _ _ HM.out hR).mono ?_; rintro e w1 ⟨rfl, rfl⟩; rw [HV.out])
    go_ret
    exact ⟨⟨_, rfl, by rw [ptV, if_neg (by rw [HV.out]; simp)]; exact OwnI.nil_⟩, by (repeat' (first | (with_reducible exact Below.refl _ _) | (with_reducible assumption) | (with_reducible refine Below.al ?_ _) | (with_reducible refine Below.drew ?_) | (with_reducible refine Below.drN ?_ _) | (with_reducible refine Below.via (by with_reducible assumption) ?_) | (with_reducible refine Below.setc ?_ ?_ _) | (with_reducible exact Nat.le_refl _) | (simp; done) | (simp; omega)))⟩
end Go.Proofs.Ytejipiadapggmaa
