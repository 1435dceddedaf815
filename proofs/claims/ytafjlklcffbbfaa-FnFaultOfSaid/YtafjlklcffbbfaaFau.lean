/- The first operation that breaks a rule: contracts of the reference's fault, FaultOf and Keeps. -/
import Derived.Test.YtafjlklcffbbfaaFauU
import Derived.Test.YtafjlklcffbbfaaFauV
namespace Go.Proofs.Ytafjlklcffbbfaa
set_option linter.unusedSimpArgs false
set_option linter.unusedVariables false
open Go.RowKit
def brkO (r : Option Nat) (l : List O3) (i : Nat) : Bool := match r with | none => false | some r => brkS r l i
theorem rn_flip {s : ByteArray} {k : Nat} {b : Bool} (h : ((rn k).toList == s.toList) = b) : (s.toList == (rn k).toList) = b := by rw [BEq.comm]; exact h
theorem spec_breaks_any (s : ByteArray) (A : Option Addr) (c : Nat) (l : List O3) (i : Nat) (w : World) (hi : i < l.length) (hl : l.length ≤ 1000) (hR : RdO w w.heap.size A l) :
    Calls Try.prog 37 #[.string s, .slice A l.length c, .int .i64 i] w fun e w' => e = .returned (.tuple #[.bool (brkO (ruleOf s) l i), .bool (ruleOf s).isSome]) ∧ Below w.heap.size w w' := by
  cases hr : ruleOf s with
  | none =>
    have f0 := rn_flip (ruleOf_none hr (show 0 < 5 by omega))
    have f1 := rn_flip (ruleOf_none hr (show 1 < 5 by omega))
    have f2 := rn_flip (ruleOf_none hr (show 2 < 5 by omega))
    have f3 := rn_flip (ruleOf_none hr (show 3 < 5 by omega))
    have f4 := rn_flip (ruleOf_none hr (show 4 < 5 by omega))
    rw [rn_list0] at f0
    rw [rn_list1] at f1
    rw [rn_list2] at f2
    rw [rn_list3] at f3
    rw [rn_list4] at f4
    exact spec_breaks5_any s A c l i w hi hl f0 f1 f2 f3 f4 hR
  | some k =>
    obtain ⟨hk, h1, h2⟩ := ruleOf_some hr
    match k, hk, h1, h2 with
    | 0, _, h1, _ =>
      have f0 := rn_flip h1
      rw [rn_list0] at f0
      exact spec_breaks0_any s A c l i w hi hl f0 hR
    | 1, _, h1, h2 =>
      have f0 := rn_flip (h2 0 (by omega))
      have f1 := rn_flip h1
      rw [rn_list0] at f0
      rw [rn_list1] at f1
      exact spec_breaks1_any s A c l i w hi hl f0 f1 hR
    | 2, _, h1, h2 =>
      have f0 := rn_flip (h2 0 (by omega))
      have f1 := rn_flip (h2 1 (by omega))
      have f2 := rn_flip h1
      rw [rn_list0] at f0
      rw [rn_list1] at f1
      rw [rn_list2] at f2
      have f3 : (s.toList == ([114, 105, 103, 111, 114, 111, 117, 115] : List UInt8)) = false := by rw [eq_of_beq f2]; decide
      exact spec_breaks2_any s A c l i w hi hl f0 f1 f2 f3 hR
    | 3, _, h1, h2 =>
      have f0 := rn_flip (h2 0 (by omega))
      have f1 := rn_flip (h2 1 (by omega))
      have f2 := rn_flip (h2 2 (by omega))
      have f3 := rn_flip h1
      rw [rn_list0] at f0
      rw [rn_list1] at f1
      rw [rn_list2] at f2
      rw [rn_list3] at f3
      exact spec_breaks3_any s A c l i w hi hl f0 f1 f2 f3 hR
    | 4, _, h1, h2 =>
      have f0 := rn_flip (h2 0 (by omega))
      have f1 := rn_flip (h2 1 (by omega))
      have f2 := rn_flip (h2 2 (by omega))
      have f3 := rn_flip (h2 3 (by omega))
      have f4 := rn_flip h1
      rw [rn_list0] at f0
      rw [rn_list1] at f1
      rw [rn_list2] at f2
      rw [rn_list3] at f3
      rw [rn_list4] at f4
      exact spec_breaks4_any s A c l i w hi hl f0 f1 f2 f3 f4 hR
    | n + 5, h, _, _ => omega
set_option maxHeartbeats 1000000 in
theorem spec_fault_any (s : ByteArray) (A : Option Addr) (c : Nat) (l : List O3) (w : World) (hl : l.length ≤ 1000) (hR : RdO w w.heap.size A l) :
    Calls Try.prog 38 #[.string s, .slice A l.length c] w fun e w' => e = .returned (.int .i64 (fstTo (brkO (ruleOf s) l) l.length)) ∧ Below w.heap.size w w' := by
  have HR := Lib.hid hR; clear hR
  go_enter Try.func38, Try.ntmps38
  go_wp2_with fail
  go_loopw [5, 6, 7] (fun v5 _ _ wr => ∃ k : Nat, k ≤ l.length ∧ v5 = .int .i64 k ∧ anyTo (brkO (ruleOf s) l) k = false ∧ Below w.heap.size w wr) (fun v5 _ _ _ => l.length - (intOf v5).toNat)
  case atStart => exact ⟨0, Nat.zero_le _, rfl, rfl, Below.refl _ _⟩
  case round =>
    obtain ⟨k, hk, rfl, hall, hbw⟩ := hrel
    have HA := Lib.hid hall; clear hall
    have HB := Lib.hid hbw; clear hbw
    by_cases hlt : k < l.length
    · cases e1 : brkO (ruleOf s) l k
      · have HN := Lib.hid (anyTo_on HA.out e1)
        have E1 := Lib.hid e1; clear e1
        go_wp2_with fail
        refine (spec_breaks_any _ _ _ _ _ _ hlt hl (HR.out.on HB.out)).mono ?_
        rintro e w1 ⟨rfl, hb1⟩
        rw [E1.out]
        go_wp2
        exact ⟨⟨k + 1, by omega, by go_num, HN.out, Below.trans HB.out (hb1.mono HB.out.size)⟩, by simp [intOf]; omega⟩
      · have HY := Lib.hid (fst_hit HA.out e1 hlt)
        have E1 := Lib.hid e1; clear e1
        go_wp2_with fail
        refine (spec_breaks_any _ _ _ _ _ _ hlt hl (HR.out.on HB.out)).mono ?_
        rintro e w1 ⟨rfl, hb1⟩
        rw [E1.out]
        go_wp2
        go_ret
        exact ⟨ret_int HY.out.symm, Below.trans HB.out (hb1.mono HB.out.size)⟩
    · have hk' : k = l.length := by omega
      have HE := Lib.hid (show fstTo (brkO (ruleOf s) l) l.length = -1 from fst_none (by rw [← hk']; exact HA.out))
      clear hk'
      go_wp2
      go_ret
      exact ⟨ret_int HE.out.symm, HB.out⟩
theorem rd_one (w : World) (E : TypeId) (x y z : Int) : RdO (w.alloc (.cells #[.int .i64 x, .int .i64 y, .int .i64 z] E)) (w.heap.size + 1) (some ⟨w.heap.size, 0, none⟩) [⟨x, y, z⟩] := fun hne => by
  refine ⟨w.heap.size, 0, rfl, by omega, fun k hk => ?_⟩
  obtain rfl : k = 0 := by simp at hk; exact hk
  simp
set_option maxHeartbeats 1000000 in
theorem spec_FaultOf_any (s : ByteArray) (A : Option Addr) (c : Nat) (l : List O3) (w : World) (hl : l.length ≤ 1048576) (hR : RdO w w.heap.size A l) :
    Calls Try.prog 22 #[.string s, .slice A l.length c] w fun e w' => e = .returned (.tuple #[.int .i64 (faultV (ruleOf s) l).1, .bool (faultV (ruleOf s) l).2]) ∧ Below w.heap.size w w' := by
  have HM := Lib.hid (show l.length ≤ maxLen by unfold maxLen; omega)
  have HR := Lib.hid hR; clear hR
  have HC := Lib.hid (spec_breaks_any s (some ⟨w.heap.size, 0, none⟩) 1 [⟨0, 2, 0⟩] 0 (w.alloc (.cells #[.int .i64 0, .int .i64 2, .int .i64 0] 43)) (by simp) (by simp) (by rw [show (w.alloc (.cells #[.int .i64 0, .int .i64 2, .int .i64 0] 43)).heap.size = w.heap.size + 1 by simp]; exact rd_one w _ 0 2 0))
  cases hr : ruleOf s with
  | none =>
    have hf : faultV none l = (-1, false) := rfl
    rw [hf]
    rw [hr] at HC
    go_enter Try.func22, Try.ntmps22
    go_wp2_with fail
    refine HC.out.mono ?_
    rintro e w1 ⟨rfl, hb1⟩
    go_wp2
    go_ret2
    exact ⟨rfl, Below.trans (show Below w.heap.size w _ by (repeat' (first | (with_reducible exact Below.refl _ _) | (with_reducible assumption) | (with_reducible refine Below.al ?_ _) | (with_reducible refine Below.drew ?_) | (with_reducible refine Below.drN ?_ _) | (with_reducible refine Below.via (by with_reducible assumption) ?_) | (with_reducible refine Below.setc ?_ ?_ _) | (with_reducible exact Nat.le_refl _) | (simp; done) | (simp; omega)))) (hb1.mono (by simp))⟩
  | some k =>
    rw [hr] at HC
    have hal : Below w.heap.size w (w.alloc (.cells #[.int .i64 0, .int .i64 2, .int .i64 0] 43)) := by (repeat' (first | (with_reducible exact Below.refl _ _) | (with_reducible assumption) | (with_reducible refine Below.al ?_ _) | (with_reducible refine Below.drew ?_) | (with_reducible refine Below.drN ?_ _) | (with_reducible refine Below.via (by with_reducible assumption) ?_) | (with_reducible refine Below.setc ?_ ?_ _) | (with_reducible exact Nat.le_refl _) | (simp; done) | (simp; omega)))
    have HAL := Lib.hid hal; clear hal
    rcases Bool.eq_false_or_eq_true (tt (ValidP l)) with hv | hv
    all_goals have HV := Lib.hid hv
    · have hl16 := (tt_eq.1 hv).1
      have HF := Lib.hid (show faultV (some k) l = (fstTo (brkO (some k) l) l.length, true) by
        unfold faultV
        simp only [HV.out, if_true]
        rw [fst_congr (fun i hi => (brk_same (tt_eq.1 HV.out) k hi).symm)]
        rfl)
      clear hv
      go_enter Try.func22, Try.ntmps22
      go_wp2_with fail
      refine HC.out.mono ?_
      rintro e w1 ⟨rfl, hb1⟩
      have hR1 := HR.out.on (Below.trans HAL.out (hb1.mono (by simp)))
      have HB1 := Lib.hid (Below.trans HAL.out (hb1.mono (by simp)))
      clear hb1
      go_wp2_with (go_at_call 27; refine (spec_validSchedule_any _ _ _ _ HM.out hR1).mono ?_; rintro e w2 ⟨rfl, hb2⟩; rw [HV.out])
      refine (spec_fault_any _ _ _ _ _ (by omega) (hR1.on hb2)).mono ?_
      rintro e w3 ⟨rfl, hb3⟩
      go_wp2
      go_ret2
      exact ⟨by rw [HF.out]; rfl, Below.trans HB1.out ((Below.trans hb2 (hb3.mono hb2.size)).mono HB1.out.size)⟩
    · have HF := Lib.hid (show faultV (some k) l = (-1, false) by unfold faultV; simp only [HV.out]; rfl)
      clear hv
      go_enter Try.func22, Try.ntmps22
      go_wp2_with fail
      refine HC.out.mono ?_
      rintro e w1 ⟨rfl, hb1⟩
      have hR1 := HR.out.on (Below.trans HAL.out (hb1.mono (by simp)))
      have HB1 := Lib.hid (Below.trans HAL.out (hb1.mono (by simp)))
      clear hb1
      go_wp2_with (go_at_call 27; refine (spec_validSchedule_any _ _ _ _ HM.out hR1).mono ?_; rintro e w2 ⟨rfl, hb2⟩; rw [HV.out])
      go_ret2
      exact ⟨by rw [HF.out]; rfl, Below.trans HB1.out (hb2.mono HB1.out.size)⟩
set_option maxHeartbeats 400000 in
theorem spec_Keeps_any (s : ByteArray) (A : Option Addr) (c : Nat) (l : List O3) (w : World) (hl : l.length ≤ 1048576) (hR : RdO w w.heap.size A l) :
    Calls Try.prog 24 #[.string s, .slice A l.length c] w fun e w' => e = .returned (.bool (keepsV (ruleOf s) l)) ∧ Below w.heap.size w w' := by
  have HK : keepsV (ruleOf s) l = ((faultV (ruleOf s) l).2 && decide ((faultV (ruleOf s) l).1 < 0)) := rfl
  cases e1 : (faultV (ruleOf s) l).2
  · have HD := Lib.hid (show keepsV (ruleOf s) l = false by rw [HK, e1]; rfl)
    have E1 := Lib.hid e1; clear e1 HK
    go_enter Try.func24, Try.ntmps24
    go_wp2_with (go_at_call 22; refine (spec_FaultOf_any _ _ _ _ _ hl hR).mono ?_; rintro e w1 ⟨rfl, hb1⟩; rw [E1.out])
    go_ret
    exact ⟨ret_bool HD.out.symm, hb1⟩
  · have HD := Lib.hid (show keepsV (ruleOf s) l = decide ((faultV (ruleOf s) l).1 < 0) by rw [HK, e1]; rfl)
    have E1 := Lib.hid e1; clear e1 HK
    go_enter Try.func24, Try.ntmps24
    go_wp2_with (go_at_call 22; refine (spec_FaultOf_any _ _ _ _ _ hl hR).mono ?_; rintro e w1 ⟨rfl, hb1⟩; rw [E1.out])
    go_ret
    exact ⟨ret_bool HD.out.symm, hb1⟩
end Go.Proofs.Ytafjlklcffbbfaa
