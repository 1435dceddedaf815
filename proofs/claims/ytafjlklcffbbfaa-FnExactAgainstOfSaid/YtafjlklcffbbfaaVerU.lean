/- Whose version a read reads on a snapshot: contracts of VersionsOf. -/
import Derived.Test.YtafjlklcffbbfaaVerT
import Derived.Test.YtafjlklcffbbfaaRoom
namespace Go.Proofs.Ytafjlklcffbbfaa
set_option linter.unusedSimpArgs false
set_option linter.unusedVariables false
open Go.RowKit
theorem surv_le16 {l : List O3} (h : l.length ≤ 16) : (survL l).length ≤ 16 := Nat.le_trans (survL_le l) h
theorem impl_versionOf_any (A A2 : Option Addr) (c c2 : Nat) (l : List O3) (L : List Int) (i : Nat) (w : World) (hi : i < l.length) (hv : ValidP l) (hc : l.length ≤ c) (hcom : ∀ u ∈ L, ∃ j, ∃ hj : j < l.length, l[j].tx = u ∧ l[j].kind = 2) (hL : L.length ≤ 1000) (hR : RdO w w.heap.size A l) (hR2 : RdI w w.heap.size A2 L) :
    Calls Try.prog 34 #[.slice A l.length c, .slice A2 L.length c2, .int .i64 i] w fun e w' => e = .returned (.int .i64 (verS l L i)) ∧ Below w.heap.size w w' := by
  rcases valid_item3 hv hi with hx | hx | hx
  · exact impl_versionOf_at0 A A2 c c2 l L i w hi hx hv hc hcom hL hR hR2
  · exact impl_versionOf_at1 A A2 c c2 l L i w hi hx hv hc hcom hL hR hR2
  · exact impl_versionOf_at2 A A2 c c2 l L i w hi hx hv hc hcom hL hR hR2
set_option maxHeartbeats 2000000 in
theorem spec_VersionsOf_any (A : Option Addr) (c : Nat) (l : List O3) (w : World) (hl : l.length ≤ 1048576) (hc : l.length ≤ c) (hR : RdO w w.heap.size A l) :
    Calls Try.prog 18 #[.slice A l.length c] w fun e w' => (∃ v, e = .returned v ∧ OwnI w' w.heap.size 3 v (verV l)) ∧ Below w.heap.size w w' := by
  obtain ⟨i0, hi0, hz0, hz1, hz2⟩ := info_parts info_I
  have HM := Lib.hid (show l.length ≤ maxLen by unfold maxLen; omega)
  rcases Bool.eq_false_or_eq_true (tt (ValidP l)) with hv | hv
  all_goals have HV := Lib.hid hv
  · have HP := Lib.hid (tt_eq.1 hv)
    have hl16 := HP.out.1
    have h16 := surv_le16 hl16
    clear hv
    go_enter Try.func18, Try.ntmps18
    go_wp2_with (first | (go_at_call 27; refine (spec_validSchedule_any _ _ _ _ HM.out hR).mono ?_; rintro e w1 ⟨rfl, hb1⟩; rw [HV.out]) | (go_at_call 28; refine (spec_survivors_any _ _ _ _ (by omega) (hR.on hb1)).mono ?_; rintro e w2 ⟨⟨v, rfl, hO2⟩, hb2⟩; obtain ⟨A9, c9, rfl, hO9⟩ := hO2.reads; have hrd := hO2.rd))
    have hb12 := Lib.hid (Below.trans hb1 (hb2.mono hb1.size))
    have HRA := Lib.hid (hR.on hb12.out)
    have HRL := Lib.hid hrd
    have hB0 : Below w2.heap.size w2 (w2.alloc (Obj.cells #[] 3)) := by (repeat' (first | (with_reducible exact Below.refl _ _) | (with_reducible assumption) | (with_reducible refine Below.al ?_ _) | (with_reducible refine Below.drew ?_) | (with_reducible refine Below.drN ?_ _) | (with_reducible refine Below.via (by with_reducible assumption) ?_) | (with_reducible refine Below.setc ?_ ?_ _) | (with_reducible exact Nat.le_refl _) | (simp; done) | (simp; omega)))
    have hO0 : AppI (w2.alloc (Obj.cells #[] 3)) w2.heap.size 3 (.slice (some ⟨w2.heap.size, 0, none⟩) 0 0) [] := AppI.made (Nat.le_refl _) _ _ (by simp [maxLen]) rfl
    clear hrd hO2 hO9 hb1 hb2
    go_loopw [4, 5] (fun v3 v10 wr => ∃ (k : Nat) (A' : Option Addr) (c' : Nat), k ≤ l.length ∧ v10 = .int .i64 k ∧ v3 = .slice A' (readsTo (verS l (survL l)) l k).length c' ∧ AppI wr w2.heap.size 3 (.slice A' (readsTo (verS l (survL l)) l k).length c') (readsTo (verS l (survL l)) l k) ∧ Below w2.heap.size w2 wr) (fun _ v10 _ => l.length - (intOf v10).toNat)
    case atStart => exact ⟨0, _, _, Nat.zero_le _, rfl, rfl, hO0, hB0⟩
    case round =>
      obtain ⟨k, A', c', hk, rfl, rfl, hown, hbw⟩ := hrel
      have HO := Lib.hid hown; clear hown hO0
      have HB := Lib.hid hbw; clear hbw hB0
      by_cases hlt : k < l.length
      · have HR2 := Lib.hid (HRA.out.on HB.out)
        have HL2 := Lib.hid (HRL.out.on HB.out)
        obtain ⟨b, off, rfl, hb, h0, h1, h2⟩ := HR2.out.at_ hlt
        have hle := readsTo_le (verS l (survL l)) l k
        have HL := Lib.hid (show (readsTo (verS l (survL l)) l k).length ≤ 4194304 by omega)
        clear hle
        cases e1 : (l[k].kind == 0)
        · have HS := Lib.hid (readsTo_no (F := verS l (survL l)) hlt e1)
          go_wp2_with fail
          exact ⟨⟨k + 1, A', c', by omega, by go_num, by rw [HS.out], by rw [HS.out]; exact HO.out.on (by (repeat' (first | (with_reducible exact Below.refl _ _) | (with_reducible assumption) | (with_reducible refine Below.al ?_ _) | (with_reducible refine Below.drew ?_) | (with_reducible refine Below.drN ?_ _) | (with_reducible refine Below.via (by with_reducible assumption) ?_) | (with_reducible refine Below.setc ?_ ?_ _) | (with_reducible exact Nat.le_refl _) | (simp; done) | (simp; omega)))), Below.via (show Below wr.heap.size wr _ by (repeat' (first | (with_reducible exact Below.refl _ _) | (with_reducible assumption) | (with_reducible refine Below.al ?_ _) | (with_reducible refine Below.drew ?_) | (with_reducible refine Below.drN ?_ _) | (with_reducible refine Below.via (by with_reducible assumption) ?_) | (with_reducible refine Below.setc ?_ ?_ _) | (with_reducible exact Nat.le_refl _) | (simp; done) | (simp; omega)))) HB.out⟩, by simp [intOf]; omega⟩
        · have HS := Lib.hid (readsTo_yes (F := verS l (survL l)) hlt e1)
          go_wp2_with fail
          refine (spec_versionAt_any _ _ _ _ l (survL l) k _ hlt (by omega) (by omega) HR2.out HL2.out).mono ?_
          rintro e w3 ⟨rfl, hb3⟩
          have hb4 : Below wr.heap.size wr w3 := by (repeat' (first | (with_reducible exact Below.refl _ _) | (with_reducible assumption) | (with_reducible refine Below.al ?_ _) | (with_reducible refine Below.drew ?_) | (with_reducible refine Below.drN ?_ _) | (with_reducible refine Below.via (by with_reducible assumption) ?_) | (with_reducible refine Below.setc ?_ ?_ _) | (with_reducible exact Nat.le_refl _) | (simp; done) | (simp; omega)))
          have HO1 := Lib.hid (HO.out.on hb4)
          have HB3 := Lib.hid (Below.via hb4 HB.out)
          have hsz3 := HB3.out.size
          obtain ⟨hbc, hbf, hbz⟩ := bcell hb3
          clear hb3 hb4
          go_wp2_with (at_builtin; refine wpList_app_i _ 24 3 i0 rfl _ _ rfl Try.underlying24 hi0 hz0 hz1 hz2 w2.heap.size _ _ rfl HO1.out (verS l (survL l) k) _ rfl (by first | rfl | simp) HL.out hsz3 ?_; intro A5 c5 w5 hO5 hg5 hb5)
          exact ⟨⟨k + 1, A5, c5, by omega, by go_num, by rw [HS.out]; simp, by rw [HS.out, List.length_append]; exact hO5, HB3.out.trans hb5⟩, by simp [intOf]; omega⟩
      · have hk' : k = l.length := by omega
        have HK := Lib.hid hk'; clear hk'
        skip
        go_wp2
        go_ret
        refine ⟨⟨_, rfl, ?_⟩, Below.trans hb12.out (HB.out.mono hb12.out.size)⟩
        have h := (HO.out.own).low (base' := w.heap.size) hb12.out.size
        rw [HK.out] at h
        rw [verV, HV.out, if_pos rfl, HK.out]
        exact h
  · clear hv
    go_enter Try.func18, Try.ntmps18
    go_wp2_with (go_at_call 27; refine (spec_validSchedule_any _ _ _ _ HM.out hR).mono ?_; rintro e w1 ⟨rfl, hb1⟩; rw [HV.out])
    go_ret
    exact ⟨⟨_, rfl, by rw [verV, HV.out]; exact OwnI.nil_⟩, by (repeat' (first | (with_reducible exact Below.refl _ _) | (with_reducible assumption) | (with_reducible refine Below.al ?_ _) | (with_reducible refine Below.drew ?_) | (with_reducible refine Below.drN ?_ _) | (with_reducible refine Below.via (by with_reducible assumption) ?_) | (with_reducible refine Below.setc ?_ ?_ _) | (with_reducible exact Nat.le_refl _) | (simp; done) | (simp; omega)))⟩
set_option maxHeartbeats 2000000 in
theorem impl_VersionsOf_any (A : Option Addr) (c : Nat) (l : List O3) (w : World) (hl : l.length ≤ 1048576) (hc : l.length ≤ c) (hR : RdO w w.heap.size A l) :
    Calls Try.prog 19 #[.slice A l.length c] w fun e w' => (∃ v, e = .returned v ∧ OwnI w' w.heap.size 3 v (verV l)) ∧ Below w.heap.size w w' := by
  obtain ⟨i0, hi0, hz0, hz1, hz2⟩ := info_parts info_I
  have HM := Lib.hid (show l.length ≤ maxLen by unfold maxLen; omega)
  have H1 := Lib.hid (show i0.bytes * l.length ≤ 281474976710656 by rw [hz2]; omega)
  rcases Bool.eq_false_or_eq_true (tt (ValidP l)) with hv | hv
  all_goals have HV := Lib.hid hv
  · have HP := Lib.hid (tt_eq.1 hv)
    have HCM := Lib.hid (fun u (hu : u ∈ survL l) => (surv_mem hu).elim fun j h => h.elim fun hj h => (⟨j, hj, h.2⟩ : ∃ j, ∃ hj : j < l.length, l[j].tx = u ∧ l[j].kind = 2))
    have hl16 := HP.out.1
    have h16 := surv_le16 hl16
    clear hv
    go_enter Try.func19, Try.ntmps19
    go_wp2_with (first | (go_at_call 30; refine (impl_ValidSchedule_any _ _ _ _ HM.out hc hR).mono ?_; rintro e w1 ⟨rfl, hb1⟩; rw [HV.out]) | (at_make; refine wpList_make_own _ rfl _ _ 24 rfl w1.heap.size 3 i0 _ 1 Try.underlying24 hi0 hz0 hz1 .i64 .i64 _ l.length rfl rfl rfl H1.out HM.out (Nat.le_refl _) ?_; intro W hOW hg; have hbW : Below w1.heap.size w1 W := (Below.refl _ _).grown hg (Nat.le_refl _) (by simp); clear hg) | (go_at_call 31; refine (impl_survivorsOf_any _ _ _ _ HP.out (hR.on (Below.trans hb1 (hbW.mono hb1.size)))).mono ?_; rintro e w2 ⟨⟨v, rfl, hO2⟩, hb2⟩; obtain ⟨A9, c9, rfl, hO9⟩ := hO2.reads; have hrd := hO2.rd))
    have HR1 := Lib.hid (hR.on hb1)
    have hs1 := hbW.size
    have hs0 := hb1.size
    have hs2 := hb2.size
    have HB1 := Lib.hid hb1
    have HBW2 := Lib.hid (Below.trans hbW (hb2.mono hbW.size))
    have HL2 := Lib.hid hO2
    have hsz1 : w1.heap.size < W.heap.size := by
      rcases (show AppI W w1.heap.size 3 (.slice (some ⟨w1.heap.size, 0, none⟩) 0 l.length) [] from hOW).lt _ rfl with h; exact h.2
    have hne : (Value.slice A9 (survL l).length c9).ownBlock = none ∨ (Value.slice A9 (survL l).length c9).ownBlock ≠ some w1.heap.size := by
      cases hv : (Value.slice A9 (survL l).length c9).ownBlock with
      | none => exact .inl rfl
      | some q => refine .inr ?_; have h := (OwnG.own_lt hO2 q hv).1; simp; omega
    have HNE := Lib.hid hne
    have hO0 := (show AppI W w1.heap.size 3 (.slice (some ⟨w1.heap.size, 0, none⟩) 0 l.length) [] from hOW).on hb2
    clear hrd hO2 hO9 hb1 hb2 hOW hbW hne
    go_loopw [3, 5, 6, 17] (fun v3 _ _ v17 wr => ∃ (k : Nat), k ≤ l.length ∧ v17 = .int .i64 k ∧ v3 = .slice (some ⟨w1.heap.size, 0, none⟩) (readsTo (verS l (survL l)) l k).length l.length ∧ AppI wr w1.heap.size 3 (.slice (some ⟨w1.heap.size, 0, none⟩) (readsTo (verS l (survL l)) l k).length l.length) (readsTo (verS l (survL l)) l k) ∧ w2.grownBy wr (some w1.heap.size) ∧ Below w1.heap.size w1 wr) (fun _ _ _ v17 _ => l.length - (intOf v17).toNat)
    case atStart => exact ⟨0, Nat.zero_le _, rfl, rfl, hO0, World.grownBy.refl _ _, HBW2.out⟩
    case round =>
      obtain ⟨k, hk, rfl, rfl, hown, hgw, hbw⟩ := hrel
      have HO := Lib.hid hown; clear hown hO0
      have HG := Lib.hid hgw; clear hgw
      have HB := Lib.hid hbw; clear hbw
      have hszr := HB.out.size
      by_cases hlt : k < l.length
      · have HR2 := Lib.hid (HR1.out.on HB.out)
        have HLL := Lib.hid (OwnG.far HL2.out HG.out HNE.out)
        obtain ⟨b, off, rfl, hb, h0, h1, h2⟩ := HR2.out.at_ hlt
        have hle := readsTo_le (verS l (survL l)) l k
        have HL := Lib.hid (show (readsTo (verS l (survL l)) l k).length ≤ 4194304 by omega)
        have HRM := Lib.hid (show (readsTo (verS l (survL l)) l k).length + 1 ≤ l.length by omega)
        clear hle
        cases e1 : (l[k].kind == 0)
        · have HS := Lib.hid (readsTo_no (F := verS l (survL l)) hlt e1)
          go_wp2_with fail
          exact ⟨⟨k + 1, by omega, by go_num, by rw [HS.out], by rw [HS.out]; exact HO.out.alloc _, HG.out.trans (World.grownBy_alloc _ _ _), Below.alloc HB.out (by omega) _⟩, by simp [intOf]; omega⟩
        · have HS := Lib.hid (readsTo_yes (F := verS l (survL l)) hlt e1)
          have hal : Below wr.heap.size wr (wr.alloc (.cells #[.int .i64 l[k].tx, .int .i64 l[k].kind, .int .i64 l[k].item] 43)) := by (repeat' (first | (with_reducible exact Below.refl _ _) | (with_reducible assumption) | (with_reducible refine Below.al ?_ _) | (with_reducible refine Below.drew ?_) | (with_reducible refine Below.drN ?_ _) | (with_reducible refine Below.via (by with_reducible assumption) ?_) | (with_reducible refine Below.setc ?_ ?_ _) | (with_reducible exact Nat.le_refl _) | (simp; done) | (simp; omega)))
          have HAL := Lib.hid hal
          go_wp2_with fail
          refine (impl_versionOf_any _ _ _ _ l (survL l) k _ hlt HP.out hc HCM.out (by omega) (HR2.out.on HAL.out) (OwnI.rd (OwnG.on HLL.out HAL.out))).mono ?_
          rintro e w3 ⟨rfl, hb3⟩
          have hb4 : Below wr.heap.size wr w3 := Below.trans HAL.out (hb3.mono HAL.out.size)
          have HO1 := Lib.hid (HO.out.on hb4)
          have HB3 := Lib.hid (Below.trans HB.out (hb4.mono HB.out.size))
          have HG3 := Lib.hid (HG.out.trans (⟨hb4.os, hb4.tape, hb4.output, hb4.size, fun k hk _ => hb4.block k hk⟩ : wr.grownBy w3 (some w1.heap.size)))
          have hsz3 := HB3.out.size
          clear hb3 hb4
          go_wp2_with (at_builtin; refine wpList_room_i _ 24 3 i0 rfl _ _ rfl Try.underlying24 hi0 hz0 hz1 hz2 w1.heap.size w1.heap.size l.length _ rfl HO1.out HRM.out (verS l (survL l) k) _ rfl (by first | rfl | simp) HL.out hsz3 ?_; intro w5 hO5 hg5 hb5)
          exact ⟨⟨k + 1, by omega, by go_num, by rw [HS.out]; simp, by rw [HS.out, List.length_append]; exact hO5, HG3.out.trans ((World.grownBy_alloc _ _ _).trans hg5), HB3.out.trans hb5⟩, by simp [intOf]; omega⟩
      · have hk' : k = l.length := by omega
        have HK := Lib.hid hk'; clear hk'
        have hcap := HO.out.cap.1
        go_wp2
        go_ret
        refine ⟨⟨_, rfl, ?_⟩, Below.trans HB1.out (HB.out.mono HB1.out.size)⟩
        have h := (HO.out.own.cut rfl).low (base' := w.heap.size) hs0
        rw [HK.out] at h
        rw [verV, HV.out, if_pos rfl, HK.out]
        exact h
  · clear hv
    go_enter Try.func19, Try.ntmps19
    go_wp2_with (go_at_call 30; refine (impl_ValidSchedule_any _ _ _ _ HM.out hc hR).mono ?_; rintro e w1 ⟨rfl, hb1⟩; rw [HV.out])
    go_ret
    exact ⟨⟨_, rfl, by rw [verV, HV.out]; exact OwnI.nil_⟩, by (repeat' (first | (with_reducible exact Below.refl _ _) | (with_reducible assumption) | (with_reducible refine Below.al ?_ _) | (with_reducible refine Below.drew ?_) | (with_reducible refine Below.drN ?_ _) | (with_reducible refine Below.via (by with_reducible assumption) ?_) | (with_reducible refine Below.setc ?_ ?_ _) | (with_reducible exact Nat.le_refl _) | (simp; done) | (simp; omega)))⟩
end Go.Proofs.Ytafjlklcffbbfaa
