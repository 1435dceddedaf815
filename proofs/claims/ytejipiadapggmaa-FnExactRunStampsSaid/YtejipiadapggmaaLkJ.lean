/- A schedule with locks: contract of the program's LocksOf, its main walk. -/
import Derived.Test.YtejipiadapggmaaLkI
namespace Go.Proofs.Ytejipiadapggmaa
set_option linter.unusedSimpArgs false
set_option linter.unusedVariables false
open Go.RowKit
set_option maxHeartbeats 400000 in
theorem impl_runnable_any (A : Option Addr) (c : Nat) (l : List O3) (w : World) (hl : l.length ≤ maxLen) (hc : l.length ≤ c) (hR : RdO w w.heap.size A l) :
    Calls Try.prog 41 #[.slice A l.length c] w fun e w' => e = .returned (.bool (lkOk l)) ∧ Below w.heap.size w w' := by
  unfold lkOk
  cases hv : tt (ValidP l)
  all_goals have HV := Lib.hid hv; clear hv
  all_goals go_enter Try.func41, Try.ntmps41
  all_goals go_wp2_with (go_at_call 65; refine (impl_ValidSchedule_any _ _ _ _ hl hc hR).mono ?_; rintro e w1 ⟨rfl, hb1⟩; rw [HV.out])
  all_goals go_ret
  · exact ⟨rfl, by (repeat' (first | (with_reducible exact Below.refl _ _) | (with_reducible assumption) | (with_reducible refine Below.al ?_ _) | (with_reducible refine Below.drew ?_) | (with_reducible refine Below.drN ?_ _) | (with_reducible refine Below.via (by with_reducible assumption) ?_) | (with_reducible refine Below.setc ?_ ?_ _) | (with_reducible exact Nat.le_refl _) | (simp; done) | (simp; omega)))⟩
  · exact ⟨ret_bool (by simp; omega), by (repeat' (first | (with_reducible exact Below.refl _ _) | (with_reducible assumption) | (with_reducible refine Below.al ?_ _) | (with_reducible refine Below.drew ?_) | (with_reducible refine Below.drN ?_ _) | (with_reducible refine Below.via (by with_reducible assumption) ?_) | (with_reducible refine Below.setc ?_ ?_ _) | (with_reducible exact Nat.le_refl _) | (simp; done) | (simp; omega)))⟩
set_option maxHeartbeats 400000 in
theorem Clip_S_any (A : Option Addr) (n c : Nat) (w : World) (hn : n ≤ c) :
    Calls Try.prog 55 #[.slice A n c] w fun e w' => e = .returned (.slice A n n) ∧ w = w' := by
  go_enter Try.func55, Try.ntmps55
  go_wp2
  go_ret
  exact ⟨rfl, rfl⟩
theorem LkAt.on {w w' : World} {B b3 b4 g c : Nat} {A : Option Addr} {out : List O3} (h : LkAt w B b3 b4 g A c out) (hb : Below w.heap.size w w') : LkAt w' B b3 b4 g A c out :=
  ⟨(hb.block _ (lt_of_block h.c3)).trans h.c3, (hb.block _ (lt_of_block h.c4)).trans h.c4, h.own.on hb, h.tab.on hb, h.s3, h.s4, h.sg, h.d⟩
set_option maxRecDepth 100000 in
set_option maxHeartbeats 4000000 in
theorem impl_LocksOf_any (A : Option Addr) (c : Nat) (l : List O3) (w : World) (hl : l.length ≤ 1048576) (hc : l.length ≤ c) (hR : RdO w w.heap.size A l) :
    Calls Try.prog 27 #[.slice A l.length c] w fun e w' => (∃ v, e = .returned v ∧ OwnO w' w.heap.size 49 v (lkV l)) ∧ Below w.heap.size w w' := by
  have HM := Lib.hid (show l.length ≤ maxLen by unfold maxLen; omega)
  cases hv : lkOk l
  · have hs : lkV l = [] := by unfold lkV; rw [hv]; rfl
    rw [hs]
    have HV := Lib.hid hv; clear hv hs
    go_enter Try.func27, Try.ntmps27
    go_wp2_with (go_at_call 41; refine (impl_runnable_any _ _ _ _ HM.out hc hR).mono ?_; rintro e w1 ⟨rfl, hb1⟩; rw [HV.out])
    go_ret
    exact ⟨⟨_, rfl, OwnO.nil_⟩, by (repeat' (first | (with_reducible exact Below.refl _ _) | (with_reducible assumption) | (with_reducible refine Below.al ?_ _) | (with_reducible refine Below.drew ?_) | (with_reducible refine Below.drN ?_ _) | (with_reducible refine Below.via (by with_reducible assumption) ?_) | (with_reducible refine Below.setc ?_ ?_ _) | (with_reducible exact Nat.le_refl _) | (simp; done) | (simp; omega)))⟩
  · have hs : lkV l = lkTo l l.length := by unfold lkV; rw [hv]; rfl
    rw [hs]
    have HV := Lib.hid hv
    have hP : ValidP l ∧ l.length ≤ 12 := by unfold lkOk at hv; simp only [Bool.and_eq_true, decide_eq_true_eq] at hv; exact ⟨tt_eq.1 hv.1, hv.2⟩
    have h12 := hP.2
    have HVA := Lib.hid (fun o (ho : o ∈ l) => show validB o = true by obtain ⟨k, hk, rfl⟩ := List.getElem_of_mem ho; exact (hP.1.2 k hk).2.1)
    clear hv hs hP
    go_enter Try.func27, Try.ntmps27
    go_wp2_with (first
      | (go_at_call 41; refine (impl_runnable_any _ _ _ _ HM.out hc hR).mono ?_; rintro e w1 ⟨rfl, hb1⟩; rw [HV.out])
      | (go_at_call 51; refine (impl_tableOf_any none 0 [] _ rfl (by simp) RdO.nil).mono ?_; rintro e w2 ⟨⟨g, rfl, hg, hT⟩, hb2⟩))
    have hz1 := hb1.size
    have hz2 := hb2.size
    simp only [World.size_alloc] at hz2 hg
    obtain ⟨b3, hb3⟩ : ∃ b3, b3 = w1.heap.size + 1 := ⟨_, rfl⟩
    obtain ⟨b4, hb4⟩ : ∃ b4, b4 = w2.heap.size := ⟨_, rfl⟩
    have hgl := hT.lt
    have hL0 : LkAt (w2.alloc (.cells #[.pointer (some ⟨g, 0, none⟩)] 75)) w.heap.size b3 b4 g (some ⟨w1.heap.size, 0, none⟩) 0 (lkTo l 0) := by
      have h3 : ((w1.alloc (Obj.cells #[] 49)).alloc (.cells #[.slice (some ⟨w1.heap.size, 0, none⟩) 0 0] 26)).heap[b3]? = some (.cells #[.slice (some ⟨w1.heap.size, 0, none⟩) 0 0] 26 (0, 0)) := by
        rw [hb3]
        have := heap_alloc_new (w1.alloc (Obj.cells #[] 49)) (.cells #[.slice (some ⟨w1.heap.size, 0, none⟩) 0 0] 26)
        simpa using this
      have ho : AppO ((w1.alloc (Obj.cells #[] 49)).alloc (.cells #[.slice (some ⟨w1.heap.size, 0, none⟩) 0 0] 26)) w.heap.size 49 (.slice (some ⟨w1.heap.size, 0, none⟩) 0 0) [] := (AppO.made hz1 _ _ (by simp [maxLen]) rfl).alloc _
      refine ⟨?_, ?_, ?_, ?_, ?_, ?_, ?_, ?_⟩
      · exact (Below.heap_alloc _ _ _ (by omega)).trans ((hb2.block b3 (by simp; omega)).trans h3)
      · rw [hb4]; exact heap_alloc_new _ _
      · exact (ho.on hb2).alloc _
      · exact (Below.heap_alloc _ _ _ hgl).trans hT
      · simp [Value.ownBlock]; omega
      · simp [Value.ownBlock]; omega
      · simp [Value.ownBlock]; omega
      · refine ⟨by omega, by omega, by omega, by omega, by omega, by omega⟩
    have hB0 : Below w.heap.size w (w2.alloc (.cells #[.pointer (some ⟨g, 0, none⟩)] 75)) := Below.al (Below.via (hb2.mono (by simp)) (Below.al (Below.al hb1 _) _)) _
    have e3 : w1.heap.size + 1 = b3 := hb3.symm
    try rw [e3]
    try rw [← hb4]
    have HL0 := Lib.hid hL0
    have HB0 := Lib.hid hB0
    clear hL0 hB0 hb1 hb2 hT hz1 hz2 hg hgl hb3 hb4 e3
    go_wp2_with fail
    go_loopw [7, 8, 17] (fun _ _ v17 wr => ∃ (k : Nat) (A' : Option Addr) (c' : Nat), k ≤ l.length ∧ v17 = .int .i64 k ∧ LkAt wr w.heap.size b3 b4 g A' c' (lkTo l k) ∧ Below w.heap.size w wr) (fun _ _ v17 _ => l.length - (intOf v17).toNat)
    case atStart => exact ⟨0, _, _, Nat.zero_le _, rfl, HL0.out, HB0.out⟩
    case round =>
      clear HL0 HB0
      obtain ⟨k, A', c', hk, rfl, hL, hbw⟩ := hrel
      have HL := Lib.hid hL; clear hL
      have HB := Lib.hid hbw; clear hbw
      by_cases hlt : k < l.length
      · obtain ⟨b, off, rfl, hb, h0, h1, h2⟩ := (hR.on HB.out).at_ hlt
        obtain ⟨⟨t0, t3⟩, ⟨x0', x3'⟩, hkk⟩ := valid_parts (HVA.out _ (List.getElem_mem hlt))
        obtain ⟨n, hn⟩ : ∃ n : Nat, l[k].tx = n := ⟨l[k].tx.toNat, by omega⟩
        obtain ⟨m, hm⟩ : ∃ m : Nat, l[k].item = m := ⟨l[k].item.toNat, by omega⟩
        have hn4 : (n : Int) < 4 := by omega
        have hm3 : (m : Int) < 3 := by omega
        have HNn := Lib.hid hn
        have HMm := Lib.hid hm
        rw [hn] at h0
        rw [hm] at h2
        have hlk := lk_le l k
        obtain ⟨wo, hwo⟩ : ∃ wo : World, wo = wr := ⟨_, rfl⟩
        subst hwo
        obtain ⟨wb, hwb⟩ : ∃ wb, wb = wo.alloc (.cells #[.int .i64 n, .int .i64 l[k].kind, .int .i64 m] 60) := ⟨_, rfl⟩
        have hal : Below wo.heap.size wo wb := by rw [hwb]; (repeat' (first | (with_reducible exact Below.refl _ _) | (with_reducible assumption) | (with_reducible refine Below.al ?_ _) | (with_reducible refine Below.drew ?_) | (with_reducible refine Below.drN ?_ _) | (with_reducible refine Below.via (by with_reducible assumption) ?_) | (with_reducible refine Below.setc ?_ ?_ _) | (with_reducible exact Nat.le_refl _) | (simp; done) | (simp; omega)))
        have BX0 := Lib.hid (show Bx3 wb wo.heap.size 60 n l[k].kind m by rw [hwb]; exact Bx3.made _ _ _ _ _)
        have hzb : wo.heap.size < wb.heap.size := by rw [hwb]; simp
        have L0 := Lib.hid (HL.out.on hal)
        have T0 := Lib.hid (Below.trans HB.out (hal.mono HB.out.size))
        have hne0 : (Value.slice A' (lkTo l k).length c').ownBlock ≠ some wo.heap.size := fun e => by have := (HL.out.own.lt _ e).2; omega
        have HD3 := Lib.hid (show wo.heap.size ≠ b3 by have := lt_of_block HL.out.c3; omega)
        have HDg := Lib.hid (show wo.heap.size ≠ g by have := HL.out.tab.lt; omega)
        have HVL := Lib.hid (HF_vals (lk_all HVA.out k))
        clear hn hm t0 t3 x0' x3' hal
        cases he : endB l[k]
        · have hk2 := hkk he
          have HN := Lib.hid (lk_acc hlt he)
          clear he hkk
          rcases (show l[k].kind = 0 ∨ l[k].kind = 1 by omega) with hk0 | hk0
          · have HK0 := Lib.hid hk0
            rw [hk0] at h1 hwb
            have hk0' : (BX0.out = BX0.out) := rfl
            clear hk0'
            obtain ⟨x0, x1, x2, x3, x4, x5, x6⟩ := BX0.out.at_
            have x7 : World.cell? _ ⟨b4, 0, none⟩ = some (Value.pointer (some ⟨g, 0, none⟩)) := cell_of_row _ b4 0 _ _ (0, 0) L0.out.c4
            have x8 := ((L0.out.tab.cell (n := n) (m := m) (by omega) (by omega)).1)
            have x9 := lt_of_block L0.out.c4
            have xa := L0.out.tab.lt
            rw [HK0.out] at x2
            by_cases hq : HF (lkTo l k) l[k].tx l[k].item < l[k].kind
            · have HMID := Lib.hid (mid_yes hq)
              have htest : (HF (lkTo l k) n m == -1) = true := by rw [HNn.out, HMm.out, HK0.out] at hq; rcases HVL.out n m with h | h | h <;> rw [h] at hq ⊢ <;> first | rfl | omega
              clear hq
              go_wp2_with fail
              rw [← hwb]
              clear hwb h0 h1 h2
              ((first | (with_reducible refine wp_region_from (by with_reducible assumption) follows (by kernel_rfl) ?_) | (refine wp_region_aft follows (by kernel_rfl) ?_)); (repeat (go_big_quiet_step (fail))); refine wpQuiet_nil ?_; intro _ hw'; obtain ⟨⟨w1, hb⟩, rfl⟩ := hw'; (try dsimp only); first | (replace hb := Below.via hb (by with_reducible assumption); (try clear hbc hbf hbz); obtain ⟨hbc, hbf, hbz⟩ := bcell hb) | (obtain ⟨hbc, hbf, hbz⟩ := bcell hb))
              rename_i wq
              have BXq := Lib.hid (BX0.out.be hb)
              have Lq := Lib.hid (L0.out.on hb)
              have Tq := Lib.hid (Below.trans T0.out (hb.mono T0.out.size))
              have hzq := hb.size
              clear hb hbc hbf hbz x0 x1 x2 x3 x4 x5 x6 x7 x8 x9 xa htest
              obtain ⟨y0, y1, y2, y3, y4, y5, y6⟩ := BXq.out.at_
              have y7 : World.cell? _ ⟨b4, 0, none⟩ = some (Value.pointer (some ⟨g, 0, none⟩)) := cell_of_row _ b4 0 _ _ (0, 0) Lq.out.c4
              have y8 := ((Lq.out.tab.cell (n := n) (m := m) (by omega) (by omega)).1)
              have y9 := lt_of_block Lq.out.c4
              have ya := Lq.out.tab.lt
              go_wp2_with fail
              refine (impl_put_any w.heap.size b3 b4 g n m 0 _ _ _ _ (by omega) (by omega) (by omega) (by have := hlk; omega) Lq.out).mono ?_
              rintro e w3 ⟨⟨v3, rfl⟩, A3, c3, hL3, hT3⟩
              obtain ⟨hbk3, hne3⟩ := hT3.far wo.heap.size (by omega) HD3.out HDg.out hne0
              have BX3 := Lib.hid (show Bx3 w3 wo.heap.size 60 n l[k].kind m from hbk3.trans BXq.out)
              have L3 := Lib.hid hL3
              have T3 := Lib.hid hT3.below
              have hz3 := hT3.below.size
              clear hL3 hT3 hbk3
              clear y0 y1 y2 y3 y4 y5 y6 y7 y8 y9 ya
              obtain ⟨z0, z1, z2, z3, z4, z5, z6⟩ := BX3.out.at_
              have z7 : World.cell? _ ⟨b4, 0, none⟩ = some (Value.pointer (some ⟨g, 0, none⟩)) := cell_of_row _ b4 0 _ _ (0, 0) L3.out.c4
              have z8 := ((L3.out.tab.cell (n := n) (m := m) (by omega) (by omega)).1)
              have z9 := lt_of_block L3.out.c4
              have za := L3.out.tab.lt
              go_wp2_with fail
              refine (impl_put_any w.heap.size b3 b4 g n m 3 _ _ _ _ (by omega) (by omega) (by omega) (by rw [List.length_append]; simp only [List.length_cons, List.length_nil]; omega) L3.out).mono ?_
              rintro e w4 ⟨⟨v4, rfl⟩, A4, c4, hL4, hT4⟩
              obtain ⟨hbk4, hne4⟩ := hT4.far wo.heap.size (by omega) HD3.out HDg.out hne3
              have BX4 := Lib.hid (show Bx3 w4 wo.heap.size 60 n l[k].kind m from hbk4.trans BX3.out)
              have L4 := Lib.hid hL4
              have T4 := Lib.hid hT4.below
              have hz4 := hT4.below.size
              clear hL4 hT4 hbk4
              clear z0 z1 z2 z3 z4 z5 z6 z7 z8 z9 za
              go_wp2_with fail
              exact ⟨⟨k + 1, A4, c4, by omega, by go_num, by rw [HN.out, HMID.out, HNn.out, HMm.out, HK0.out]; exact L4.out, Below.trans Tq.out (Below.trans T3.out T4.out)⟩, by simp [intOf]; omega⟩
            · have HMID := Lib.hid (mid_no hq)
              have htest : (HF (lkTo l k) n m == -1) = false := by rw [HNn.out, HMm.out, HK0.out] at hq; rcases HVL.out n m with h | h | h <;> rw [h] at hq ⊢ <;> first | rfl | omega
              clear hq
              go_wp2_with fail
              rw [← hwb]
              clear hwb h0 h1 h2
              ((first | (with_reducible refine wp_region_from (by with_reducible assumption) follows (by kernel_rfl) ?_) | (refine wp_region_aft follows (by kernel_rfl) ?_)); (repeat (go_big_quiet_step (fail))); refine wpQuiet_nil ?_; intro _ hw'; obtain ⟨⟨w1, hb⟩, rfl⟩ := hw'; (try dsimp only); first | (replace hb := Below.via hb (by with_reducible assumption); (try clear hbc hbf hbz); obtain ⟨hbc, hbf, hbz⟩ := bcell hb) | (obtain ⟨hbc, hbf, hbz⟩ := bcell hb))
              rename_i wq
              have BXq := Lib.hid (BX0.out.be hb)
              have Lq := Lib.hid (L0.out.on hb)
              have Tq := Lib.hid (Below.trans T0.out (hb.mono T0.out.size))
              have hzq := hb.size
              clear hb hbc hbf hbz x0 x1 x2 x3 x4 x5 x6 x7 x8 x9 xa htest
              obtain ⟨y0, y1, y2, y3, y4, y5, y6⟩ := BXq.out.at_
              have y7 : World.cell? _ ⟨b4, 0, none⟩ = some (Value.pointer (some ⟨g, 0, none⟩)) := cell_of_row _ b4 0 _ _ (0, 0) Lq.out.c4
              have y8 := ((Lq.out.tab.cell (n := n) (m := m) (by omega) (by omega)).1)
              have y9 := lt_of_block Lq.out.c4
              have ya := Lq.out.tab.lt
              go_wp2_with fail
              refine (impl_put_any w.heap.size b3 b4 g n m 3 _ _ _ _ (by omega) (by omega) (by omega) (by have := hlk; omega) Lq.out).mono ?_
              rintro e w4 ⟨⟨v4, rfl⟩, A4, c4, hL4, hT4⟩
              obtain ⟨hbk4, hne4⟩ := hT4.far wo.heap.size (by omega) HD3.out HDg.out hne0
              have BX4 := Lib.hid (show Bx3 w4 wo.heap.size 60 n l[k].kind m from hbk4.trans BXq.out)
              have L4 := Lib.hid hL4
              have T4 := Lib.hid hT4.below
              have hz4 := hT4.below.size
              clear hL4 hT4 hbk4
              clear y0 y1 y2 y3 y4 y5 y6 y7 y8 y9 ya
              go_wp2_with fail
              exact ⟨⟨k + 1, A4, c4, by omega, by go_num, by rw [HN.out, HMID.out, HNn.out, HMm.out, HK0.out]; exact L4.out, Below.trans Tq.out T4.out⟩, by simp [intOf]; omega⟩
          · have HK0 := Lib.hid hk0
            rw [hk0] at h1 hwb
            have hk0' : (BX0.out = BX0.out) := rfl
            clear hk0'
            obtain ⟨x0, x1, x2, x3, x4, x5, x6⟩ := BX0.out.at_
            have x7 : World.cell? _ ⟨b4, 0, none⟩ = some (Value.pointer (some ⟨g, 0, none⟩)) := cell_of_row _ b4 0 _ _ (0, 0) L0.out.c4
            have x8 := ((L0.out.tab.cell (n := n) (m := m) (by omega) (by omega)).1)
            have x9 := lt_of_block L0.out.c4
            have xa := L0.out.tab.lt
            rw [HK0.out] at x2
            by_cases hq : HF (lkTo l k) l[k].tx l[k].item < l[k].kind
            · have HMID := Lib.hid (mid_yes hq)
              have htest : (HF (lkTo l k) n m != 1) = true := by rw [HNn.out, HMm.out, HK0.out] at hq; rcases HVL.out n m with h | h | h <;> rw [h] at hq ⊢ <;> first | rfl | omega
              clear hq
              go_wp2_with fail
              rw [← hwb]
              clear hwb h0 h1 h2
              ((first | (with_reducible refine wp_region_from (by with_reducible assumption) follows (by kernel_rfl) ?_) | (refine wp_region_aft follows (by kernel_rfl) ?_)); (repeat (go_big_quiet_step (fail))); refine wpQuiet_nil ?_; intro _ hw'; obtain ⟨⟨w1, hb⟩, rfl⟩ := hw'; (try dsimp only); first | (replace hb := Below.via hb (by with_reducible assumption); (try clear hbc hbf hbz); obtain ⟨hbc, hbf, hbz⟩ := bcell hb) | (obtain ⟨hbc, hbf, hbz⟩ := bcell hb))
              rename_i wq
              have BXq := Lib.hid (BX0.out.be hb)
              have Lq := Lib.hid (L0.out.on hb)
              have Tq := Lib.hid (Below.trans T0.out (hb.mono T0.out.size))
              have hzq := hb.size
              clear hb hbc hbf hbz x0 x1 x2 x3 x4 x5 x6 x7 x8 x9 xa htest
              obtain ⟨y0, y1, y2, y3, y4, y5, y6⟩ := BXq.out.at_
              have y7 : World.cell? _ ⟨b4, 0, none⟩ = some (Value.pointer (some ⟨g, 0, none⟩)) := cell_of_row _ b4 0 _ _ (0, 0) Lq.out.c4
              have y8 := ((Lq.out.tab.cell (n := n) (m := m) (by omega) (by omega)).1)
              have y9 := lt_of_block Lq.out.c4
              have ya := Lq.out.tab.lt
              go_wp2_with fail
              refine (impl_put_any w.heap.size b3 b4 g n m 1 _ _ _ _ (by omega) (by omega) (by omega) (by have := hlk; omega) Lq.out).mono ?_
              rintro e w3 ⟨⟨v3, rfl⟩, A3, c3, hL3, hT3⟩
              obtain ⟨hbk3, hne3⟩ := hT3.far wo.heap.size (by omega) HD3.out HDg.out hne0
              have BX3 := Lib.hid (show Bx3 w3 wo.heap.size 60 n l[k].kind m from hbk3.trans BXq.out)
              have L3 := Lib.hid hL3
              have T3 := Lib.hid hT3.below
              have hz3 := hT3.below.size
              clear hL3 hT3 hbk3
              clear y0 y1 y2 y3 y4 y5 y6 y7 y8 y9 ya
              obtain ⟨z0, z1, z2, z3, z4, z5, z6⟩ := BX3.out.at_
              have z7 : World.cell? _ ⟨b4, 0, none⟩ = some (Value.pointer (some ⟨g, 0, none⟩)) := cell_of_row _ b4 0 _ _ (0, 0) L3.out.c4
              have z8 := ((L3.out.tab.cell (n := n) (m := m) (by omega) (by omega)).1)
              have z9 := lt_of_block L3.out.c4
              have za := L3.out.tab.lt
              go_wp2_with fail
              refine (impl_put_any w.heap.size b3 b4 g n m 4 _ _ _ _ (by omega) (by omega) (by omega) (by rw [List.length_append]; simp only [List.length_cons, List.length_nil]; omega) L3.out).mono ?_
              rintro e w4 ⟨⟨v4, rfl⟩, A4, c4, hL4, hT4⟩
              obtain ⟨hbk4, hne4⟩ := hT4.far wo.heap.size (by omega) HD3.out HDg.out hne3
              have BX4 := Lib.hid (show Bx3 w4 wo.heap.size 60 n l[k].kind m from hbk4.trans BX3.out)
              have L4 := Lib.hid hL4
              have T4 := Lib.hid hT4.below
              have hz4 := hT4.below.size
              clear hL4 hT4 hbk4
              clear z0 z1 z2 z3 z4 z5 z6 z7 z8 z9 za
              go_wp2_with fail
              exact ⟨⟨k + 1, A4, c4, by omega, by go_num, by rw [HN.out, HMID.out, HNn.out, HMm.out, HK0.out]; exact L4.out, Below.trans Tq.out (Below.trans T3.out T4.out)⟩, by simp [intOf]; omega⟩
            · have HMID := Lib.hid (mid_no hq)
              have htest : (HF (lkTo l k) n m != 1) = false := by rw [HNn.out, HMm.out, HK0.out] at hq; rcases HVL.out n m with h | h | h <;> rw [h] at hq ⊢ <;> first | rfl | omega
              clear hq
              go_wp2_with fail
              rw [← hwb]
              clear hwb h0 h1 h2
              ((first | (with_reducible refine wp_region_from (by with_reducible assumption) follows (by kernel_rfl) ?_) | (refine wp_region_aft follows (by kernel_rfl) ?_)); (repeat (go_big_quiet_step (fail))); refine wpQuiet_nil ?_; intro _ hw'; obtain ⟨⟨w1, hb⟩, rfl⟩ := hw'; (try dsimp only); first | (replace hb := Below.via hb (by with_reducible assumption); (try clear hbc hbf hbz); obtain ⟨hbc, hbf, hbz⟩ := bcell hb) | (obtain ⟨hbc, hbf, hbz⟩ := bcell hb))
              rename_i wq
              have BXq := Lib.hid (BX0.out.be hb)
              have Lq := Lib.hid (L0.out.on hb)
              have Tq := Lib.hid (Below.trans T0.out (hb.mono T0.out.size))
              have hzq := hb.size
              clear hb hbc hbf hbz x0 x1 x2 x3 x4 x5 x6 x7 x8 x9 xa htest
              obtain ⟨y0, y1, y2, y3, y4, y5, y6⟩ := BXq.out.at_
              have y7 : World.cell? _ ⟨b4, 0, none⟩ = some (Value.pointer (some ⟨g, 0, none⟩)) := cell_of_row _ b4 0 _ _ (0, 0) Lq.out.c4
              have y8 := ((Lq.out.tab.cell (n := n) (m := m) (by omega) (by omega)).1)
              have y9 := lt_of_block Lq.out.c4
              have ya := Lq.out.tab.lt
              go_wp2_with fail
              refine (impl_put_any w.heap.size b3 b4 g n m 4 _ _ _ _ (by omega) (by omega) (by omega) (by have := hlk; omega) Lq.out).mono ?_
              rintro e w4 ⟨⟨v4, rfl⟩, A4, c4, hL4, hT4⟩
              obtain ⟨hbk4, hne4⟩ := hT4.far wo.heap.size (by omega) HD3.out HDg.out hne0
              have BX4 := Lib.hid (show Bx3 w4 wo.heap.size 60 n l[k].kind m from hbk4.trans BXq.out)
              have L4 := Lib.hid hL4
              have T4 := Lib.hid hT4.below
              have hz4 := hT4.below.size
              clear hL4 hT4 hbk4
              clear y0 y1 y2 y3 y4 y5 y6 y7 y8 y9 ya
              go_wp2_with fail
              exact ⟨⟨k + 1, A4, c4, by omega, by go_num, by rw [HN.out, HMID.out, HNn.out, HMm.out, HK0.out]; exact L4.out, Below.trans Tq.out T4.out⟩, by simp [intOf]; omega⟩
        · have HN := Lib.hid (lk_end hlt he)
          have hk23 : l[k].kind = 2 ∨ l[k].kind = 3 := by simp [endB] at he; omega
          clear he hkk
          rcases hk23 with hk0 | hk0
          · have HK0 := Lib.hid hk0
            rw [hk0] at h1 hwb
            go_wp2_with fail
            rw [← hwb]
            clear hwb h0 h1 h2
            go_loopw [8, 23] (fun _ v23 wr => ∃ (x : Nat) (A' : Option Addr) (c' : Nat), x ≤ 3 ∧ v23 = .int .i64 x ∧ LkAt wr w.heap.size b3 b4 g A' c' (frTo (lkTo l k) l[k].tx x) ∧ Below w.heap.size w wr ∧ Bx3 wr wo.heap.size 60 n l[k].kind m ∧ (Value.slice A' (frTo (lkTo l k) l[k].tx x).length c').ownBlock ≠ some wo.heap.size ∧ wo.heap.size < wr.heap.size) (fun _ v23 _ => 3 - (intOf v23).toNat)
            case atStart => exact ⟨0, A', c', Nat.zero_le _, rfl, L0.out, T0.out, BX0.out, hne0, hzb⟩
            case round =>
              clear hne0 hzb
              obtain ⟨x, A', c', hx, rfl, hL, hbw, hbx, hne0, hzb⟩ := hrel
              have L0 := Lib.hid hL; clear hL
              have T0 := Lib.hid hbw; clear hbw
              have BX0 := Lib.hid hbx; clear hbx
              have hfl := fr_le (lkTo l k) l[k].tx x
              have HVF := Lib.hid (HF_vals (fr_all (lk_all HVA.out k) (show 0 ≤ l[k].tx ∧ l[k].tx ≤ 3 by rw [HNn.out]; omega) x hx))
              by_cases hx3 : x < 3
              · have hx3' : (x : Int) < 3 := by omega
                obtain ⟨x0, x1, x2, x3, x4, x5, x6⟩ := BX0.out.at_
                have x7 : World.cell? _ ⟨b4, 0, none⟩ = some (Value.pointer (some ⟨g, 0, none⟩)) := cell_of_row _ b4 0 _ _ (0, 0) L0.out.c4
                have x8 := ((L0.out.tab.cell (n := n) (m := x) (by omega) (by omega)).1)
                have x9 := lt_of_block L0.out.c4
                have xa := L0.out.tab.lt
                by_cases hq : 0 ≤ HF (frTo (lkTo l k) l[k].tx x) l[k].tx x
                · have HFR := Lib.hid (fr_yes hq)
                  have htest : (HF (frTo (lkTo l k) l[k].tx x) n x != -1) = true := by rw [HNn.out] at hq ⊢; have hv := HVF.out n x; rw [HNn.out] at hv; rcases hv with h | h | h <;> rw [h] at hq ⊢ <;> first | rfl | omega
                  clear hq
                  go_wp2_with fail
                  ((first | (with_reducible refine wp_region_from (by with_reducible assumption) follows (by kernel_rfl) ?_) | (refine wp_region_aft follows (by kernel_rfl) ?_)); (repeat (go_big_quiet_step (fail))); refine wpQuiet_nil ?_; intro _ hw'; obtain ⟨⟨w1, hb⟩, rfl⟩ := hw'; (try dsimp only); first | (replace hb := Below.via hb (by with_reducible assumption); (try clear hbc hbf hbz); obtain ⟨hbc, hbf, hbz⟩ := bcell hb) | (obtain ⟨hbc, hbf, hbz⟩ := bcell hb))
                  rename_i wq
                  have BXq := Lib.hid (BX0.out.be hb)
                  have Lq := Lib.hid (L0.out.on hb)
                  have Tq := Lib.hid (Below.trans T0.out (hb.mono T0.out.size))
                  have hzq := hb.size
                  clear hb hbc hbf hbz x0 x1 x2 x3 x4 x5 x6 x7 x8 x9 xa htest
                  obtain ⟨y0, y1, y2, y3, y4, y5, y6⟩ := BXq.out.at_
                  have y7 : World.cell? _ ⟨b4, 0, none⟩ = some (Value.pointer (some ⟨g, 0, none⟩)) := cell_of_row _ b4 0 _ _ (0, 0) Lq.out.c4
                  have y8 := ((Lq.out.tab.cell (n := n) (m := x) (by omega) (by omega)).1)
                  have y9 := lt_of_block Lq.out.c4
                  have ya := Lq.out.tab.lt
                  go_wp2_with fail
                  refine (impl_put_any w.heap.size b3 b4 g n x 2 _ _ _ _ (by omega) (by omega) (by omega) (by have := hfl; omega) Lq.out).mono ?_
                  rintro e w3 ⟨⟨v3, rfl⟩, A3, c3, hL3, hT3⟩
                  obtain ⟨hbk3, hne3⟩ := hT3.far wo.heap.size (by omega) HD3.out HDg.out hne0
                  have BX3 := Lib.hid (show Bx3 w3 wo.heap.size 60 n l[k].kind m from hbk3.trans BXq.out)
                  have L3 := Lib.hid hL3
                  have T3 := Lib.hid hT3.below
                  have hz3 := hT3.below.size
                  clear hL3 hT3 hbk3
                  clear y0 y1 y2 y3 y4 y5 y6 y7 y8 y9 ya
                  go_wp2_with fail
                  exact ⟨⟨x + 1, A3, c3, by omega, by go_num, by rw [HFR.out, HNn.out]; rw [HNn.out] at L3; exact L3.out, Below.trans Tq.out T3.out, BX3.out, by rw [HFR.out, HNn.out]; rw [HNn.out] at hne3; exact hne3, by omega⟩, by simp [intOf]; omega⟩
                · have HFR := Lib.hid (fr_no hq)
                  have htest : (HF (frTo (lkTo l k) l[k].tx x) n x != -1) = false := by rw [HNn.out] at hq ⊢; have hv := HVF.out n x; rw [HNn.out] at hv; rcases hv with h | h | h <;> rw [h] at hq ⊢ <;> first | rfl | omega
                  clear hq
                  go_wp2_with fail
                  ((first | (with_reducible refine wp_region_from (by with_reducible assumption) follows (by kernel_rfl) ?_) | (refine wp_region_aft follows (by kernel_rfl) ?_)); (repeat (go_big_quiet_step (fail))); refine wpQuiet_nil ?_; intro _ hw'; obtain ⟨⟨w1, hb⟩, rfl⟩ := hw'; (try dsimp only); first | (replace hb := Below.via hb (by with_reducible assumption); (try clear hbc hbf hbz); obtain ⟨hbc, hbf, hbz⟩ := bcell hb) | (obtain ⟨hbc, hbf, hbz⟩ := bcell hb))
                  go_wp2
                  have hzq := hb.size
                  exact ⟨⟨x + 1, A', c', by omega, by go_num, by rw [HFR.out]; exact L0.out.on hb, Below.trans T0.out (hb.mono T0.out.size), BX0.out.be hb, by rw [HFR.out]; exact hne0, by omega⟩, by simp [intOf]; omega⟩
              · have hx' : x = 3 := by omega
                subst hx'
                go_wp2
                exact ⟨⟨k + 1, A', c', by omega, by go_num, by rw [HN.out]; exact L0.out, T0.out⟩, by simp [intOf]; omega⟩
          · have HK0 := Lib.hid hk0
            rw [hk0] at h1 hwb
            go_wp2_with fail
            rw [← hwb]
            clear hwb h0 h1 h2
            go_loopw [8, 23] (fun _ v23 wr => ∃ (x : Nat) (A' : Option Addr) (c' : Nat), x ≤ 3 ∧ v23 = .int .i64 x ∧ LkAt wr w.heap.size b3 b4 g A' c' (frTo (lkTo l k) l[k].tx x) ∧ Below w.heap.size w wr ∧ Bx3 wr wo.heap.size 60 n l[k].kind m ∧ (Value.slice A' (frTo (lkTo l k) l[k].tx x).length c').ownBlock ≠ some wo.heap.size ∧ wo.heap.size < wr.heap.size) (fun _ v23 _ => 3 - (intOf v23).toNat)
            case atStart => exact ⟨0, A', c', Nat.zero_le _, rfl, L0.out, T0.out, BX0.out, hne0, hzb⟩
            case round =>
              clear hne0 hzb
              obtain ⟨x, A', c', hx, rfl, hL, hbw, hbx, hne0, hzb⟩ := hrel
              have L0 := Lib.hid hL; clear hL
              have T0 := Lib.hid hbw; clear hbw
              have BX0 := Lib.hid hbx; clear hbx
              have hfl := fr_le (lkTo l k) l[k].tx x
              have HVF := Lib.hid (HF_vals (fr_all (lk_all HVA.out k) (show 0 ≤ l[k].tx ∧ l[k].tx ≤ 3 by rw [HNn.out]; omega) x hx))
              by_cases hx3 : x < 3
              · have hx3' : (x : Int) < 3 := by omega
                obtain ⟨x0, x1, x2, x3, x4, x5, x6⟩ := BX0.out.at_
                have x7 : World.cell? _ ⟨b4, 0, none⟩ = some (Value.pointer (some ⟨g, 0, none⟩)) := cell_of_row _ b4 0 _ _ (0, 0) L0.out.c4
                have x8 := ((L0.out.tab.cell (n := n) (m := x) (by omega) (by omega)).1)
                have x9 := lt_of_block L0.out.c4
                have xa := L0.out.tab.lt
                by_cases hq : 0 ≤ HF (frTo (lkTo l k) l[k].tx x) l[k].tx x
                · have HFR := Lib.hid (fr_yes hq)
                  have htest : (HF (frTo (lkTo l k) l[k].tx x) n x != -1) = true := by rw [HNn.out] at hq ⊢; have hv := HVF.out n x; rw [HNn.out] at hv; rcases hv with h | h | h <;> rw [h] at hq ⊢ <;> first | rfl | omega
                  clear hq
                  go_wp2_with fail
                  ((first | (with_reducible refine wp_region_from (by with_reducible assumption) follows (by kernel_rfl) ?_) | (refine wp_region_aft follows (by kernel_rfl) ?_)); (repeat (go_big_quiet_step (fail))); refine wpQuiet_nil ?_; intro _ hw'; obtain ⟨⟨w1, hb⟩, rfl⟩ := hw'; (try dsimp only); first | (replace hb := Below.via hb (by with_reducible assumption); (try clear hbc hbf hbz); obtain ⟨hbc, hbf, hbz⟩ := bcell hb) | (obtain ⟨hbc, hbf, hbz⟩ := bcell hb))
                  rename_i wq
                  have BXq := Lib.hid (BX0.out.be hb)
                  have Lq := Lib.hid (L0.out.on hb)
                  have Tq := Lib.hid (Below.trans T0.out (hb.mono T0.out.size))
                  have hzq := hb.size
                  clear hb hbc hbf hbz x0 x1 x2 x3 x4 x5 x6 x7 x8 x9 xa htest
                  obtain ⟨y0, y1, y2, y3, y4, y5, y6⟩ := BXq.out.at_
                  have y7 : World.cell? _ ⟨b4, 0, none⟩ = some (Value.pointer (some ⟨g, 0, none⟩)) := cell_of_row _ b4 0 _ _ (0, 0) Lq.out.c4
                  have y8 := ((Lq.out.tab.cell (n := n) (m := x) (by omega) (by omega)).1)
                  have y9 := lt_of_block Lq.out.c4
                  have ya := Lq.out.tab.lt
                  go_wp2_with fail
                  refine (impl_put_any w.heap.size b3 b4 g n x 2 _ _ _ _ (by omega) (by omega) (by omega) (by have := hfl; omega) Lq.out).mono ?_
                  rintro e w3 ⟨⟨v3, rfl⟩, A3, c3, hL3, hT3⟩
                  obtain ⟨hbk3, hne3⟩ := hT3.far wo.heap.size (by omega) HD3.out HDg.out hne0
                  have BX3 := Lib.hid (show Bx3 w3 wo.heap.size 60 n l[k].kind m from hbk3.trans BXq.out)
                  have L3 := Lib.hid hL3
                  have T3 := Lib.hid hT3.below
                  have hz3 := hT3.below.size
                  clear hL3 hT3 hbk3
                  clear y0 y1 y2 y3 y4 y5 y6 y7 y8 y9 ya
                  go_wp2_with fail
                  exact ⟨⟨x + 1, A3, c3, by omega, by go_num, by rw [HFR.out, HNn.out]; rw [HNn.out] at L3; exact L3.out, Below.trans Tq.out T3.out, BX3.out, by rw [HFR.out, HNn.out]; rw [HNn.out] at hne3; exact hne3, by omega⟩, by simp [intOf]; omega⟩
                · have HFR := Lib.hid (fr_no hq)
                  have htest : (HF (frTo (lkTo l k) l[k].tx x) n x != -1) = false := by rw [HNn.out] at hq ⊢; have hv := HVF.out n x; rw [HNn.out] at hv; rcases hv with h | h | h <;> rw [h] at hq ⊢ <;> first | rfl | omega
                  clear hq
                  go_wp2_with fail
                  ((first | (with_reducible refine wp_region_from (by with_reducible assumption) follows (by kernel_rfl) ?_) | (refine wp_region_aft follows (by kernel_rfl) ?_)); (repeat (go_big_quiet_step (fail))); refine wpQuiet_nil ?_; intro _ hw'; obtain ⟨⟨w1, hb⟩, rfl⟩ := hw'; (try dsimp only); first | (replace hb := Below.via hb (by with_reducible assumption); (try clear hbc hbf hbz); obtain ⟨hbc, hbf, hbz⟩ := bcell hb) | (obtain ⟨hbc, hbf, hbz⟩ := bcell hb))
                  go_wp2
                  have hzq := hb.size
                  exact ⟨⟨x + 1, A', c', by omega, by go_num, by rw [HFR.out]; exact L0.out.on hb, Below.trans T0.out (hb.mono T0.out.size), BX0.out.be hb, by rw [HFR.out]; exact hne0, by omega⟩, by simp [intOf]; omega⟩
              · have hx' : x = 3 := by omega
                subst hx'
                go_wp2
                exact ⟨⟨k + 1, A', c', by omega, by go_num, by rw [HN.out]; exact L0.out, T0.out⟩, by simp [intOf]; omega⟩
      · have hk' : k = l.length := by omega
        have HK := Lib.hid hk'; clear hk'
        have y3 : World.cell? _ ⟨b3, 0, none⟩ = some (Value.slice A' (lkTo l k).length c') := cell_of_row _ b3 0 _ _ (0, 0) HL.out.c3
        have hcap := HL.out.own.cap.1
        go_wp2_with (go_at_call 55; refine (Clip_S_any _ _ _ _ hcap).mono ?_; rintro e w6 ⟨rfl, rfl⟩)
        go_ret
        exact ⟨⟨_, rfl, by have h := HL.out.own.own; rw [HK.out] at h ⊢; exact OwnO.cut h rfl⟩, HB.out⟩
end Go.Proofs.Ytejipiadapggmaa
