/- Who commits on snapshots: contracts of SurvivorsOf, the reference's and the program's. -/
import Derived.Test.YtafjlklcffbbfaaVerI
import Derived.Test.YtafjlklcffbbfaaBox
namespace Go.Proofs.Ytafjlklcffbbfaa
set_option linter.unusedSimpArgs false
set_option linter.unusedVariables false
open Go.RowKit

theorem findIdx_congr {α : Type} {p q : α → Bool} {l : List α} (h : ∀ x ∈ l, p x = q x) : l.findIdx? p = l.findIdx? q := by
  induction l with
  | nil => rfl
  | cons a l ih =>
    simp only [List.findIdx?_cons]
    rw [h a (List.mem_cons_self), ih (fun x hx => h x (List.mem_cons_of_mem _ hx))]
theorem com_idx {l : List O3} (hv : ValidP l) {u : Int} (h : ∃ j, ∃ hj : j < l.length, l[j].tx = u ∧ l[j].kind = 2) : idxB (fun o => O3.eqb ⟨u, 2, 0⟩ o) l = comAt l u := by
  obtain ⟨_, _, _, h4⟩ := comAt_spec h
  have e : l.findIdx? (fun o => O3.eqb ⟨u, 2, 0⟩ o) = l.findIdx? (fun o => o.tx == u && o.kind == 2) := by
    apply findIdx_congr
    intro o ho
    obtain ⟨k, hk, rfl⟩ := List.getElem_of_mem ho
    have hval := (hv.2 k hk).2.1
    rw [Bool.eq_iff_iff]
    simp only [O3.eqb, Bool.and_eq_true, beq_iff_eq]
    constructor
    · rintro ⟨h1, h2, h3⟩; exact ⟨h1.symm, h2.symm⟩
    · rintro ⟨h1, h2⟩
      refine ⟨h1.symm, h2.symm, ?_⟩
      simp only [validB, accB, endB, inR, h2, Bool.and_eq_true, Bool.or_eq_true, beq_iff_eq, decide_eq_true_eq] at hval
      omega
  unfold idxB
  rw [e, h4]
theorem first_idx {l : List O3} {k : Nat} (hk : k < l.length) : idxB (fun o => o.tx == l[k].tx) l = firstOf l l[k].tx := by
  obtain ⟨_, _, h4⟩ := firstOf_spec hk
  unfold idxB
  rw [h4]
theorem mask_meet (l : List O3) (t u : Int) : (bits .and .i64 (maskAt l l.length u) (maskAt l l.length t) != 0) = meetTo l t u 3 := by
  unfold maskAt
  rw [and_mask]
  simp only [meetTo, Bool.false_or]
  rw [Bool.and_comm (tchB l l.length u 1 0), Bool.and_comm (tchB l l.length u 1 1), Bool.and_comm (tchB l l.length u 1 2)]
  rfl
set_option maxHeartbeats 2000000 in
theorem impl_surv1_any (A : Option Addr) (c gs go : Nat) (l : List O3) (u : Int) (k : Nat) (hk : k < l.length) (kd it : Int) (w : World) (hv : ValidP l) (hu : ∃ j, ∃ hj : j < l.length, l[j].tx = u ∧ l[j].kind = 2)
    (hgs : gs < w.heap.size) (hs : w.cell? ⟨gs, 0, none⟩ = some (.slice A l.length c)) (hbx : Bx3 w go 43 l[k].tx kd it) (hR : RdO w w.heap.size A l) :
    Calls Try.prog 50 #[.int .i64 u, .pointer (some ⟨gs, 0, none⟩), .pointer (some ⟨go, 0, none⟩)] w fun e w' => e = .returned (.bool (decide (firstOf l l[k].tx < comAt l u) && meetTo l l[k].tx u 3)) ∧ Below w.heap.size w w' := by
  have hl := hv.1
  have HM := Lib.hid (show l.length ≤ maxLen by unfold maxLen; omega)
  have HV := Lib.hid hv; clear hv
  have HC := Lib.hid (com_idx HV.out hu)
  have HF := Lib.hid (first_idx hk)
  obtain ⟨a0, a1, a2, a3, a4, a5, a6⟩ := hbx.at_
  have HR := Lib.hid hR; clear hR
  by_cases h1 : firstOf l l[k].tx < comAt l u
  · have hd : decide (firstOf l l[k].tx < comAt l u) = true := by simpa using h1
    rw [hd, Bool.true_and]
    have HK := Lib.hid (mask_meet l l[k].tx u)
    have hlt1 : (firstOf l l[k].tx : Int) < (comAt l u : Int) := by omega
    clear hd hbx
    go_enter Try.func50, Try.ntmps50
    go_wp2_with fail
    ((first | (with_reducible refine wp_region_from (by with_reducible assumption) follows (by kernel_rfl) ?_) | (refine wp_region_aft follows (by kernel_rfl) ?_)); (repeat (go_big_quiet_step (first | (go_at_call 51; exact aft (impl_commitOf_any _ _ _ _ _ _ HC.out HM.out (HR.out.on (After.below _)))) | (go_at_call 52; exact aft (impl_firstOf_any _ _ _ _ _ _ HF.out (by omega) (HR.out.on (After.below _)))) | (go_at_call 53; exact aft (impl_writesOf_any _ _ l _ _ HV.out (HR.out.on (After.below _))))))); refine wpQuiet_nil ?_; intro _ hw'; obtain ⟨⟨w1, hb⟩, rfl⟩ := hw'; (try dsimp only); first | (replace hb := Below.via hb (by with_reducible assumption); (try clear hbc hbf hbz); obtain ⟨hbc, hbf, hbz⟩ := bcell hb) | (obtain ⟨hbc, hbf, hbz⟩ := bcell hb))
    go_wp2
    go_ret
    exact ⟨ret_bool HK.out, by (repeat' (first | (with_reducible exact Below.refl _ _) | (with_reducible assumption) | (with_reducible refine Below.al ?_ _) | (with_reducible refine Below.drew ?_) | (with_reducible refine Below.drN ?_ _) | (with_reducible refine Below.via (by with_reducible assumption) ?_) | (with_reducible refine Below.setc ?_ ?_ _) | (with_reducible exact Nat.le_refl _) | (simp; done) | (simp; omega)))⟩
  · have hd : decide (firstOf l l[k].tx < comAt l u) = false := by simpa using h1
    rw [hd, Bool.false_and]
    have hlt1 : ¬ (firstOf l l[k].tx : Int) < (comAt l u : Int) := by omega
    clear hd hbx
    go_enter Try.func50, Try.ntmps50
    go_wp2_with fail
    ((first | (with_reducible refine wp_region_from (by with_reducible assumption) follows (by kernel_rfl) ?_) | (refine wp_region_aft follows (by kernel_rfl) ?_)); (repeat (go_big_quiet_step (first | (go_at_call 51; exact aft (impl_commitOf_any _ _ _ _ _ _ HC.out HM.out (HR.out.on (After.below _)))) | (go_at_call 52; exact aft (impl_firstOf_any _ _ _ _ _ _ HF.out (by omega) (HR.out.on (After.below _)))) | (go_at_call 53; exact aft (impl_writesOf_any _ _ l _ _ HV.out (HR.out.on (After.below _))))))); refine wpQuiet_nil ?_; intro _ hw'; obtain ⟨⟨w1, hb⟩, rfl⟩ := hw'; (try dsimp only); first | (replace hb := Below.via hb (by with_reducible assumption); (try clear hbc hbf hbz); obtain ⟨hbc, hbf, hbz⟩ := bcell hb) | (obtain ⟨hbc, hbf, hbz⟩ := bcell hb))
    go_wp2
    go_ret
    exact ⟨rfl, by (repeat' (first | (with_reducible exact Below.refl _ _) | (with_reducible assumption) | (with_reducible refine Below.al ?_ _) | (with_reducible refine Below.drew ?_) | (with_reducible refine Below.drN ?_ _) | (with_reducible refine Below.via (by with_reducible assumption) ?_) | (with_reducible refine Below.setc ?_ ?_ _) | (with_reducible exact Nat.le_refl _) | (simp; done) | (simp; omega)))⟩
theorem impl_surv1_test (A : Option Addr) (c gs go : Nat) (l : List O3) (k : Nat) (hk : k < l.length) (h2 : l[k].kind = 2) (kd it : Int) (w : World) (hv : ValidP l)
    (hgs : gs < w.heap.size) (hs : w.cell? ⟨gs, 0, none⟩ = some (.slice A l.length c)) (hbx : Bx3 w go 43 l[k].tx kd it) (hR : RdO w w.heap.size A l) :
    TestI Try.prog 50 #[.pointer (some ⟨gs, 0, none⟩), .pointer (some ⟨go, 0, none⟩)] w (fun u => !okB l u l[k].tx) (survTo l k) :=
  ⟨Try.call50, fun u hu w1 hb => by
    obtain ⟨j, hj, _, h3, h4⟩ := surv_mem hu
    have h := impl_surv1_any A c gs go l u k hk kd it w1 hv ⟨j, hj, h3, h4⟩ (by have := hb.size; omega) ((hb.cell (p := ⟨gs, 0, none⟩) hgs).trans hs) (hbx.be hb) (hR.on hb)
    rw [against_ok hv hk hu h2] at h
    exact h⟩
set_option maxHeartbeats 2000000 in
theorem impl_survivorsOf_any (A : Option Addr) (c : Nat) (l : List O3) (w : World) (hv : ValidP l) (hR : RdO w w.heap.size A l) :
    Calls Try.prog 31 #[.slice A l.length c] w fun e w' => (∃ v, e = .returned v ∧ OwnI w' w.heap.size 3 v (survL l)) ∧ Below w.heap.size w w' := by
  have hl := hv.1
  have HV := Lib.hid hv; clear hv
  obtain ⟨i0, hi0, hz0, hz1, hz2⟩ := info_parts info_I
  have H1 := Lib.hid (show i0.bytes * 4 ≤ 281474976710656 by rw [hz2]; omega)
  have H2 := Lib.hid (show 4 ≤ maxLen by unfold maxLen; omega)
  obtain ⟨wb, hwb⟩ : ∃ wb, wb = w.alloc (.cells #[.slice A l.length c] 26) := ⟨_, rfl⟩
  have hbb : Below w.heap.size w wb := by rw [hwb]; (repeat' (first | (with_reducible exact Below.refl _ _) | (with_reducible assumption) | (with_reducible refine Below.al ?_ _) | (with_reducible refine Below.drew ?_) | (with_reducible refine Below.drN ?_ _) | (with_reducible refine Below.via (by with_reducible assumption) ?_) | (with_reducible refine Below.setc ?_ ?_ _) | (with_reducible exact Nat.le_refl _) | (simp; done) | (simp; omega)))
  have hgs : w.heap.size < wb.heap.size := by rw [hwb]; simp
  have hsc : wb.cell? ⟨w.heap.size, 0, none⟩ = some (.slice A l.length c) := by rw [hwb]; simp
  have HRb := Lib.hid (hR.on hbb)
  go_enter Try.func31, Try.ntmps31
  go_wp2_with (at_make; rw [← hwb]; refine wpList_make_own _ rfl _ _ 46 rfl wb.heap.size 3 i0 _ 1 Try.underlying46 hi0 hz0 hz1 .i64 .i64 _ 4 rfl rfl rfl H1.out H2.out (Nat.le_refl _) ?_; intro W hO hg; clear hwb; have hB0 : Below wb.heap.size wb W := (Below.refl _ _).grown hg (Nat.le_refl _) (by simp); have hsW : W.cell? ⟨w.heap.size, 0, none⟩ = some (.slice A l.length c) := (hB0.cell (p := ⟨w.heap.size, 0, none⟩) hgs).trans hsc; clear hg)
  go_loopw [3, 10] (fun v3 v10 wr => ∃ (k : Nat) (A' : Option Addr) (c' : Nat), k ≤ l.length ∧ v10 = .int .i64 k ∧ v3 = .slice A' (survTo l k).length c' ∧ AppI wr wb.heap.size 3 (.slice A' (survTo l k).length c') (survTo l k) ∧ Below wb.heap.size wb wr) (fun _ v10 _ => l.length - (intOf v10).toNat)
  case atStart => exact ⟨0, _, _, Nat.zero_le _, rfl, rfl, hO, hB0⟩
  case round =>
    clear hO hB0 hsW
    obtain ⟨k, A', c', hk, rfl, rfl, hown, hbw⟩ := hrel
    have HO := Lib.hid hown; clear hown
    have HB := Lib.hid hbw; clear hbw
    have hle := surv_le l k
    have hsz := HB.out.size
    have hsw : wr.cell? ⟨w.heap.size, 0, none⟩ = some (.slice A l.length c) := (HB.out.cell (p := ⟨w.heap.size, 0, none⟩) hgs).trans hsc
    by_cases hlt : k < l.length
    · obtain ⟨b, off, rfl, hb, h0, h1, h2⟩ := (HRb.out.on HB.out).at_ hlt
      cases ek : (l[k].kind == 2)
      · have HN := Lib.hid (surv_no hlt (by rw [ek]; rfl))
        have e2 : (l[k].kind != 2) = true := by rw [bne, ek]; rfl
        clear ek
        go_wp2_with fail
        exact ⟨⟨k + 1, A', c', by omega, by go_num, by rw [HN.out], by rw [HN.out]; exact HO.out.alloc _, Below.alloc HB.out hsz _⟩, by simp [intOf]; omega⟩
      · have e2 : (l[k].kind != 2) = false := by rw [bne, ek]; rfl
        have hkind : l[k].kind = 2 := by simpa using ek
        have hal : Below wr.heap.size wr (wr.alloc (.cells #[.int .i64 l[k].tx, .int .i64 l[k].kind, .int .i64 l[k].item] 43)) := by (repeat' (first | (with_reducible exact Below.refl _ _) | (with_reducible assumption) | (with_reducible refine Below.al ?_ _) | (with_reducible refine Below.drew ?_) | (with_reducible refine Below.drN ?_ _) | (with_reducible refine Below.via (by with_reducible assumption) ?_) | (with_reducible refine Below.setc ?_ ?_ _) | (with_reducible exact Nat.le_refl _) | (simp; done) | (simp; omega)))
        have HT := Lib.hid (impl_surv1_test (some ⟨b, off, none⟩) c w.heap.size wr.heap.size l k hlt hkind l[k].kind l[k].item _ HV.out (by simp; omega) ((hal.cell (p := ⟨w.heap.size, 0, none⟩) (by show w.heap.size < wr.heap.size; omega)).trans hsw) (Bx3.made wr 43 l[k].tx l[k].kind l[k].item) ((HRb.out.on HB.out).on hal))
        have HO1 := Lib.hid (HO.out.alloc (.cells #[.int .i64 l[k].tx, .int .i64 l[k].kind, .int .i64 l[k].item] 43))
        have HB1 := Lib.hid (Below.alloc HB.out hsz (.cells #[.int .i64 l[k].tx, .int .i64 l[k].kind, .int .i64 l[k].item] 43))
        have HAN := Lib.hid (show (survTo l k).any (fun u => !okB l u l[k].tx) = !((survTo l k).all fun u => okB l u l[k].tx) by rw [List.all_eq_not_any_not, Bool.not_not])
        have hml : (survTo l k).length ≤ maxLen := by unfold maxLen; omega
        clear hal hkind
        cases hall : ((survTo l k).all fun u => okB l u l[k].tx)
        · have HN := Lib.hid (surv_no hlt (by rw [ek, hall]; rfl))
          have HAL := Lib.hid hall
          clear hall ek
          go_wp2_with fail
          refine (ContainsFunc_list_any _ _ _ _ _ _ _ hml HO1.out.own.rd HT.out).mono ?_
          rintro e w2 ⟨rfl, hb2⟩
          rw [HAN.out, HAL.out]
          go_wp2_with fail
          exact ⟨⟨k + 1, A', c', by omega, by go_num, by rw [HN.out], by rw [HN.out]; exact HO1.out.on hb2, HB1.out.trans (hb2.mono (by simp; omega))⟩, by simp [intOf]; omega⟩
        · have HY := Lib.hid (surv_yes hlt (by rw [ek, hall]; rfl))
          have HAL := Lib.hid hall
          clear hall ek
          go_wp2_with fail
          refine (ContainsFunc_list_any _ _ _ _ _ _ _ hml HO1.out.own.rd HT.out).mono ?_
          rintro e w2 ⟨rfl, hb2⟩
          rw [HAN.out, HAL.out]
          have HO2 := Lib.hid (HO1.out.on hb2)
          have HB2 := Lib.hid (HB1.out.trans (hb2.mono (by simp; omega)))
          obtain ⟨x0, x1, x2, x3, x4, x5, x6⟩ := ((Bx3.made wr 43 l[k].tx l[k].kind l[k].item).be hb2).at_
          have hsz2 := HB2.out.size
          have hl4 : (survTo l k).length ≤ 4194304 := by omega
          clear hb2
          go_wp2_with (at_builtin; refine wpList_app_i _ 46 3 i0 rfl _ _ rfl Try.underlying46 hi0 hz0 hz1 hz2 wb.heap.size _ _ rfl HO2.out l[k].tx _ rfl (by first | rfl | simp) hl4 hsz2 ?_; intro A5 c5 w5 hO5 hg5 hb5)
          exact ⟨⟨k + 1, A5, c5, by omega, by go_num, by rw [HY.out]; simp, by rw [HY.out, List.length_append]; exact hO5, HB2.out.trans hb5⟩, by simp [intOf]; omega⟩
    · have hk' : k = l.length := by omega
      have HK := Lib.hid hk'; clear hk'
      have hcap := HO.out.cap.1
      go_wp2
      go_ret
      refine ⟨⟨_, rfl, ?_⟩, Below.trans hbb (HB.out.mono (by omega))⟩
      have h := (HO.out.own.cut rfl).low (base' := w.heap.size) (by omega)
      rw [HK.out] at h
      rw [HK.out]
      exact h
set_option maxHeartbeats 400000 in
theorem spec_SurvivorsOf_any (A : Option Addr) (c : Nat) (l : List O3) (w : World) (hl : l.length ≤ 1048576) (hc : l.length ≤ c) (hR : RdO w w.heap.size A l) :
    Calls Try.prog 10 #[.slice A l.length c] w fun e w' => (∃ v, e = .returned v ∧ OwnI w' w.heap.size 3 v (survV l)) ∧ Below w.heap.size w w' := by
  have HM := Lib.hid (show l.length ≤ maxLen by unfold maxLen; omega)
  rcases Bool.eq_false_or_eq_true (tt (ValidP l)) with hv | hv
  all_goals have HV := Lib.hid hv
  · have hl16 := (tt_eq.1 hv).1
    clear hv
    go_enter Try.func10, Try.ntmps10
    go_wp2_with (first | (go_at_call 27; refine (spec_validSchedule_any _ _ _ _ HM.out hR).mono ?_; rintro e w1 ⟨rfl, hb1⟩; rw [HV.out]) | (go_at_call 28; refine (spec_survivors_any _ _ _ _ (by omega) (hR.on hb1)).mono ?_; rintro e w2 ⟨⟨v, rfl, hO⟩, hb2⟩))
    go_ret
    exact ⟨⟨v, rfl, by rw [survV, HV.out]; exact OwnG.low hO hb1.size⟩, by (repeat' (first | (with_reducible exact Below.refl _ _) | (with_reducible assumption) | (with_reducible refine Below.al ?_ _) | (with_reducible refine Below.drew ?_) | (with_reducible refine Below.drN ?_ _) | (with_reducible refine Below.via (by with_reducible assumption) ?_) | (with_reducible refine Below.setc ?_ ?_ _) | (with_reducible exact Nat.le_refl _) | (simp; done) | (simp; omega)))⟩
  · clear hv
    go_enter Try.func10, Try.ntmps10
    go_wp2_with (go_at_call 27; refine (spec_validSchedule_any _ _ _ _ HM.out hR).mono ?_; rintro e w1 ⟨rfl, hb1⟩; rw [HV.out])
    go_ret
    exact ⟨⟨_, rfl, by rw [survV, HV.out]; exact OwnI.nil_⟩, by (repeat' (first | (with_reducible exact Below.refl _ _) | (with_reducible assumption) | (with_reducible refine Below.al ?_ _) | (with_reducible refine Below.drew ?_) | (with_reducible refine Below.drN ?_ _) | (with_reducible refine Below.via (by with_reducible assumption) ?_) | (with_reducible refine Below.setc ?_ ?_ _) | (with_reducible exact Nat.le_refl _) | (simp; done) | (simp; omega)))⟩
set_option maxHeartbeats 400000 in
theorem impl_SurvivorsOf_any (A : Option Addr) (c : Nat) (l : List O3) (w : World) (hl : l.length ≤ 1048576) (hc : l.length ≤ c) (hR : RdO w w.heap.size A l) :
    Calls Try.prog 12 #[.slice A l.length c] w fun e w' => (∃ v, e = .returned v ∧ OwnI w' w.heap.size 3 v (survV l)) ∧ Below w.heap.size w w' := by
  have HM := Lib.hid (show l.length ≤ maxLen by unfold maxLen; omega)
  rcases Bool.eq_false_or_eq_true (tt (ValidP l)) with hv | hv
  all_goals have HV := Lib.hid hv
  · have HP := Lib.hid (tt_eq.1 hv)
    clear hv
    go_enter Try.func12, Try.ntmps12
    go_wp2_with (first | (go_at_call 30; refine (impl_ValidSchedule_any _ _ _ _ HM.out hc hR).mono ?_; rintro e w1 ⟨rfl, hb1⟩; rw [HV.out]) | (go_at_call 31; refine (impl_survivorsOf_any _ _ _ _ HP.out (hR.on hb1)).mono ?_; rintro e w2 ⟨⟨v, rfl, hO⟩, hb2⟩; obtain ⟨A9, c9, rfl, _⟩ := hO.reads))
    go_ret
    exact ⟨⟨_, rfl, by rw [survV, HV.out]; exact OwnG.low hO hb1.size⟩, by (repeat' (first | (with_reducible exact Below.refl _ _) | (with_reducible assumption) | (with_reducible refine Below.al ?_ _) | (with_reducible refine Below.drew ?_) | (with_reducible refine Below.drN ?_ _) | (with_reducible refine Below.via (by with_reducible assumption) ?_) | (with_reducible refine Below.setc ?_ ?_ _) | (with_reducible exact Nat.le_refl _) | (simp; done) | (simp; omega)))⟩
  · clear hv
    go_enter Try.func12, Try.ntmps12
    go_wp2_with (go_at_call 30; refine (impl_ValidSchedule_any _ _ _ _ HM.out hc hR).mono ?_; rintro e w1 ⟨rfl, hb1⟩; rw [HV.out])
    go_ret
    exact ⟨⟨_, rfl, by rw [survV, HV.out]; exact OwnI.nil_⟩, by (repeat' (first | (with_reducible exact Below.refl _ _) | (with_reducible assumption) | (with_reducible refine Below.al ?_ _) | (with_reducible refine Below.drew ?_) | (with_reducible refine Below.drN ?_ _) | (with_reducible refine Below.via (by with_reducible assumption) ?_) | (with_reducible refine Below.setc ?_ ?_ _) | (with_reducible exact Nat.le_refl _) | (simp; done) | (simp; omega)))⟩
end Go.Proofs.Ytafjlklcffbbfaa
