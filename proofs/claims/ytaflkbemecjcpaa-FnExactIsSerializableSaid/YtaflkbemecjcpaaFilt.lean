/- Contracts of the functions that pick operations out of a schedule: OpsOf, CommittedOf, the reference's and the program's. -/
import Derived.Test.YtaflkbemecjcpaaSch
namespace Go.Proofs.Ytaflkbemecjcpaa
set_option linter.unusedSimpArgs false
set_option linter.unusedVariables false
open Go.RowKit

theorem info_O : (Try.prog.info? 40).map (fun i => (i.zero, i.size, i.bytes)) = some (some (.agg #[.int .i64 0, .int .i64 0, .int .i64 0]), 3, 24) := by kernel_rfl
theorem info_I : (Try.prog.info? 3).map (fun i => (i.zero, i.size, i.bytes)) = some (some (.int .i64 0), 1, 8) := by kernel_rfl

set_option maxHeartbeats 400000 in
theorem spec_opsOf_any (A : Option Addr) (c : Nat) (l : List O3) (t : Int) (w : World) (hl : l.length ≤ 1048576) (hR : RdO w w.heap.size A l) :
    Calls Try.prog 79 #[.slice A l.length c, .int .i64 t] w fun e w' => (∃ v, e = .returned v ∧ OwnO w' w.heap.size 40 v (l.filter fun o => o.tx == t)) ∧ Below w.heap.size w w' := by
  obtain ⟨i0, hi0, hz0, hz1, hz2⟩ := info_parts info_O
  go_enter Try.func79, Try.ntmps79
  go_wp2_with fail
  have hB0 : Below w.heap.size w (w.alloc (Obj.cells #[] 40)) := by (repeat' (first | (with_reducible exact Below.refl _ _) | (with_reducible assumption) | (with_reducible refine Below.al ?_ _) | (with_reducible refine Below.drew ?_) | (with_reducible refine Below.drN ?_ _) | (with_reducible refine Below.via (by with_reducible assumption) ?_) | (with_reducible refine Below.setc ?_ ?_ _) | (with_reducible exact Nat.le_refl _) | (simp; done) | (simp; omega)))
  have hO0 : AppO (w.alloc (Obj.cells #[] 40)) w.heap.size 40 (.slice (some ⟨w.heap.size, 0, none⟩) 0 0) [] := AppO.made (Nat.le_refl _) _ _ (by simp [maxLen]) rfl
  go_loopw [5, 6] (fun v i wr => ∃ (k : Nat) (A' : Option Addr) (c' : Nat), k ≤ l.length ∧ i = .int .i64 k ∧ v = .slice A' ((l.take k).filter fun o => o.tx == t).length c' ∧ AppO wr w.heap.size 40 (.slice A' ((l.take k).filter fun o => o.tx == t).length c') ((l.take k).filter fun o => o.tx == t) ∧ Below w.heap.size w wr) (fun _ i _ => l.length - (intOf i).toNat)
  case atStart => exact ⟨0, _, _, Nat.zero_le _, rfl, rfl, hO0, hB0⟩
  case round =>
    obtain ⟨k, A', c', hk, rfl, rfl, hown, hbw⟩ := hrel
    have HO := Lib.hid hown; clear hown hO0
    have HB := Lib.hid hbw; clear hbw hB0
    by_cases hlt : k < l.length
    · obtain ⟨b, off, rfl, hb, h0, h1, h2⟩ := (hR.on HB.out).at_ hlt
      have hle := filter_take_le (fun o : O3 => o.tx == t) l k
      have HL := Lib.hid (show ((l.take k).filter fun o => o.tx == t).length ≤ 4194304 by omega)
      clear hle
      have hBs : w.heap.size ≤ wr.heap.size := HB.out.size
      cases e1 : (l[k].tx == t)
      · go_wp2_with fail
        exact ⟨⟨k + 1, A', c', by omega, by go_num, by rw [filter_take_no hlt e1], by rw [filter_take_no hlt e1]; exact HO.out, HB.out⟩, by simp [intOf]; omega⟩
      · go_wp2_with (at_builtin; refine wpList_app_o _ 26 40 i0 rfl _ _ rfl Try.underlying26 hi0 hz0 hz1 hz2 w.heap.size _ _ rfl HO.out l[k] _ rfl (by first | rfl | simp) HL.out hBs ?_; intro A2 c2 w2 hO2 hg2 hb2)
        refine ⟨⟨k + 1, A2, c2, by omega, by go_num, ?_, ?_, HB.out.trans hb2⟩, by simp [intOf]; omega⟩
        · rw [filter_take_yes hlt e1]; simp
        · rw [filter_take_yes hlt e1, List.length_append]; exact hO2
    · have hk' : k = l.length := by omega
      have HK := Lib.hid hk'; clear hk'
      go_wp2
      go_ret
      refine ⟨⟨_, rfl, ?_⟩, HB.out⟩
      have h := HO.out.own
      rw [HK.out, List.take_length] at h
      rw [HK.out, List.take_length]
      exact h

set_option maxHeartbeats 1000000 in
theorem impl_kept_any (A : Option Addr) (c : Nat) (l : List O3) (F : FuncId) (caps : Array Value) (p : O3 → Bool) (w : World) (hl : l.length ≤ 1048576) (hR : RdO w w.heap.size A l) (hF : TestOn Try.prog F caps w p l) :
    Calls Try.prog 77 #[.slice A l.length c, .func (.func F) #[] caps] w fun e w' => (∃ v, e = .returned v ∧ OwnO w' w.heap.size 40 v (l.filter p)) ∧ Below w.heap.size w w' := by
  obtain ⟨i0, hi0, hz0, hz1, hz2⟩ := info_parts info_O
  have hgo := hF.go
  have hb1 : i0.bytes * l.length ≤ 281474976710656 := by rw [hz2]; omega
  have hb2 : l.length ≤ maxLen := by unfold maxLen; omega
  have H1 := Lib.hid hb1; clear hb1
  have H2 := Lib.hid hb2; clear hb2
  go_enter Try.func77, Try.ntmps77
  go_wp2_with (at_make; refine wpList_make_own _ rfl _ _ 26 rfl w.heap.size 40 i0 _ 3 Try.underlying26 hi0 hz0 hz1 .i64 .i64 _ l.length rfl rfl rfl H1.out H2.out (Nat.le_refl _) ?_; intro W hO hg)
  have hB0 : Below w.heap.size w W := (Below.refl _ _).grown hg (Nat.le_refl _) (by simp)
  clear hg
  go_loopw [5, 13] (fun v i wr => ∃ (k : Nat) (A' : Option Addr) (c' : Nat), k ≤ l.length ∧ i = .int .i64 k ∧ v = .slice A' ((l.take k).filter p).length c' ∧ AppO wr w.heap.size 40 (.slice A' ((l.take k).filter p).length c') ((l.take k).filter p) ∧ Below w.heap.size w wr) (fun _ i _ => l.length - (intOf i).toNat)
  case atStart => exact ⟨0, _, _, Nat.zero_le _, rfl, rfl, hO, hB0⟩
  case round =>
    obtain ⟨k, A', c', hk, rfl, rfl, hown, hbw⟩ := hrel
    have HO := Lib.hid hown; clear hown hO
    have HB := Lib.hid hbw; clear hbw hB0
    by_cases hlt : k < l.length
    · obtain ⟨b, off, rfl, hb, h0, h1, h2⟩ := (hR.on HB.out).at_ hlt
      have hle := filter_take_le p l k
      have HL := Lib.hid (show ((l.take k).filter p).length ≤ 4194304 by omega)
      clear hle
      have hBs : w.heap.size ≤ wr.heap.size := HB.out.size
      have HC := Lib.hid (hF.test l[k] (List.getElem_mem hlt))
      cases e1 : p l[k]
      all_goals have HE := Lib.hid e1; clear e1
      · go_wp2_with (refine (HC.out _ (by have hbw := HB.out; (repeat' (first | (with_reducible exact Below.refl _ _) | (with_reducible assumption) | (with_reducible refine Below.al ?_ _) | (with_reducible refine Below.drew ?_) | (with_reducible refine Below.drN ?_ _) | (with_reducible refine Below.via (by with_reducible assumption) ?_) | (with_reducible refine Below.setc ?_ ?_ _) | (with_reducible exact Nat.le_refl _) | (simp; done) | (simp; omega))))).mono ?_; rintro e w1 ⟨rfl, hb1⟩; rw [HE.out])
        exact ⟨⟨k + 1, A', c', by omega, by go_num, by rw [filter_take_no hlt HE.out], by rw [filter_take_no hlt HE.out]; exact HO.out.on (by (repeat' (first | (with_reducible exact Below.refl _ _) | (with_reducible assumption) | (with_reducible refine Below.al ?_ _) | (with_reducible refine Below.drew ?_) | (with_reducible refine Below.drN ?_ _) | (with_reducible refine Below.via (by with_reducible assumption) ?_) | (with_reducible refine Below.setc ?_ ?_ _) | (with_reducible exact Nat.le_refl _) | (simp; done) | (simp; omega)))), by have hbw := HB.out; (repeat' (first | (with_reducible exact Below.refl _ _) | (with_reducible assumption) | (with_reducible refine Below.al ?_ _) | (with_reducible refine Below.drew ?_) | (with_reducible refine Below.drN ?_ _) | (with_reducible refine Below.via (by with_reducible assumption) ?_) | (with_reducible refine Below.setc ?_ ?_ _) | (with_reducible exact Nat.le_refl _) | (simp; done) | (simp; omega)))⟩, by simp [intOf]; omega⟩
      · go_wp2_with (first
          | (refine (HC.out _ (by have hbw := HB.out; (repeat' (first | (with_reducible exact Below.refl _ _) | (with_reducible assumption) | (with_reducible refine Below.al ?_ _) | (with_reducible refine Below.drew ?_) | (with_reducible refine Below.drN ?_ _) | (with_reducible refine Below.via (by with_reducible assumption) ?_) | (with_reducible refine Below.setc ?_ ?_ _) | (with_reducible exact Nat.le_refl _) | (simp; done) | (simp; omega))))).mono ?_; rintro e w1 ⟨rfl, hb1⟩; rw [HE.out]; obtain ⟨hbc, hbf, hbz⟩ := bcell hb1; have hb3 : w.heap.size ≤ w1.heap.size := (show Below w.heap.size w w1 by have hbw := HB.out; (repeat' (first | (with_reducible exact Below.refl _ _) | (with_reducible assumption) | (with_reducible refine Below.al ?_ _) | (with_reducible refine Below.drew ?_) | (with_reducible refine Below.drN ?_ _) | (with_reducible refine Below.via (by with_reducible assumption) ?_) | (with_reducible refine Below.setc ?_ ?_ _) | (with_reducible exact Nat.le_refl _) | (simp; done) | (simp; omega)))).size; have HO1 := Lib.hid (HO.out.on (show Below wr.heap.size wr w1 by (repeat' (first | (with_reducible exact Below.refl _ _) | (with_reducible assumption) | (with_reducible refine Below.al ?_ _) | (with_reducible refine Below.drew ?_) | (with_reducible refine Below.drN ?_ _) | (with_reducible refine Below.via (by with_reducible assumption) ?_) | (with_reducible refine Below.setc ?_ ?_ _) | (with_reducible exact Nat.le_refl _) | (simp; done) | (simp; omega))))))
          | (at_builtin; refine wpList_app_o _ 26 40 i0 rfl _ _ rfl Try.underlying26 hi0 hz0 hz1 hz2 w.heap.size _ _ rfl HO1.out l[k] _ rfl (by first | rfl | simp) HL.out hb3 ?_; intro A2 c2 w2 hO2 hg2 hb2))
        refine ⟨⟨k + 1, A2, c2, by omega, by go_num, ?_, ?_, ?_⟩, by simp [intOf]; omega⟩
        · rw [filter_take_yes hlt HE.out]; simp
        · rw [filter_take_yes hlt HE.out, List.length_append]; exact hO2
        · have hbw := HB.out
          have h4 : Below w.heap.size w w1 := by (repeat' (first | (with_reducible exact Below.refl _ _) | (with_reducible assumption) | (with_reducible refine Below.al ?_ _) | (with_reducible refine Below.drew ?_) | (with_reducible refine Below.drN ?_ _) | (with_reducible refine Below.via (by with_reducible assumption) ?_) | (with_reducible refine Below.setc ?_ ?_ _) | (with_reducible exact Nat.le_refl _) | (simp; done) | (simp; omega)))
          exact h4.trans hb2
    · have hk' : k = l.length := by omega
      have HK := Lib.hid hk'; clear hk'
      have hcap := HO.out.cap.1
      go_wp2
      go_ret
      refine ⟨⟨_, rfl, ?_⟩, HB.out⟩
      have h := HO.out.own.cut rfl
      rw [HK.out, List.take_length] at h
      rw [HK.out, List.take_length]
      exact h

set_option maxHeartbeats 400000 in
theorem impl_opsOf1_any (a b c t : Int) (g : Nat) (w : World) (hg : g < w.heap.size) (hc : w.cell? ⟨g, 0, none⟩ = some (.int .i64 t)) :
    Calls Try.prog 96 #[.agg #[.int .i64 a, .int .i64 b, .int .i64 c], .pointer (some ⟨g, 0, none⟩)] w fun e w' => e = .returned (.bool (a == t)) ∧ Below w.heap.size w w' := by
  have hne : g ≠ w.heap.size := by omega
  have hc' := fun o => (World.cell?_alloc_old w o ⟨g, 0, none⟩ hne).trans hc
  go_enter Try.func96, Try.ntmps96
  go_wp2
  go_ret
  exact ⟨rfl, by (repeat' (first | (with_reducible exact Below.refl _ _) | (with_reducible assumption) | (with_reducible refine Below.al ?_ _) | (with_reducible refine Below.drew ?_) | (with_reducible refine Below.drN ?_ _) | (with_reducible refine Below.via (by with_reducible assumption) ?_) | (with_reducible refine Below.setc ?_ ?_ _) | (with_reducible exact Nat.le_refl _) | (simp; done) | (simp; omega)))⟩
theorem impl_opsOf1_test (t : Int) (g : Nat) (w : World) (l : List O3) (hg : g < w.heap.size) (hc : w.cell? ⟨g, 0, none⟩ = some (.int .i64 t)) : TestOn Try.prog 96 #[.pointer (some ⟨g, 0, none⟩)] w (fun o => o.tx == t) l :=
  ⟨Try.call96, fun o _ w1 hb => impl_opsOf1_any o.tx o.kind o.item t g w1 (by have := hb.size; omega) ((hb.cell (p := ⟨g, 0, none⟩) hg).trans hc)⟩
set_option maxHeartbeats 400000 in
theorem impl_opsOf_any (A : Option Addr) (c : Nat) (l : List O3) (t : Int) (w : World) (hl : l.length ≤ 1048576) (hR : RdO w w.heap.size A l) :
    Calls Try.prog 81 #[.slice A l.length c, .int .i64 t] w fun e w' => (∃ v, e = .returned v ∧ OwnO w' w.heap.size 40 v (l.filter fun o => o.tx == t)) ∧ Below w.heap.size w w' := by
  have hk := impl_kept_any A c l 96 #[.pointer (some ⟨w.heap.size, 0, none⟩)] (fun o => o.tx == t) (w.alloc (.cells #[.int .i64 t] 3)) hl (hR.on (by (repeat' (first | (with_reducible exact Below.refl _ _) | (with_reducible assumption) | (with_reducible refine Below.al ?_ _) | (with_reducible refine Below.drew ?_) | (with_reducible refine Below.drN ?_ _) | (with_reducible refine Below.via (by with_reducible assumption) ?_) | (with_reducible refine Below.setc ?_ ?_ _) | (with_reducible exact Nat.le_refl _) | (simp; done) | (simp; omega))))) (impl_opsOf1_test t w.heap.size _ l (by simp) (by simp))
  have HK := Lib.hid hk; clear hk
  go_enter Try.func81, Try.ntmps81
  go_wp2_with (go_at_call 77; refine (HK.out).mono ?_; rintro e w1 ⟨⟨v, rfl, hO⟩, hb⟩)
  go_ret
  exact ⟨⟨v, rfl, OwnG.low hO (by simp)⟩, by (repeat' (first | (with_reducible exact Below.refl _ _) | (with_reducible assumption) | (with_reducible refine Below.al ?_ _) | (with_reducible refine Below.drew ?_) | (with_reducible refine Below.drN ?_ _) | (with_reducible refine Below.via (by with_reducible assumption) ?_) | (with_reducible refine Below.setc ?_ ?_ _) | (with_reducible exact Nat.le_refl _) | (simp; done) | (simp; omega)))⟩

/-- The operations of those that commit. -/
def comL (l : List O3) : List O3 := l.filter fun o => endL l o.tx == 2
theorem comL_len (l : List O3) : (comL l).length ≤ l.length := List.length_filter_le _ _
/-- CommittedOf's value. -/
noncomputable def comV (l : List O3) : List O3 := if tt (ValidP l) = true then comL l else []
theorem comV_len (l : List O3) (hl : l.length ≤ 1048576) : (comV l).length ≤ 1048576 := by
  unfold comV; split
  · exact Nat.le_trans (comL_len l) hl
  · simp
set_option maxHeartbeats 1000000 in
theorem spec_committed_any (A : Option Addr) (c : Nat) (l : List O3) (w : World) (hl : l.length ≤ 1048576) (hR : RdO w w.heap.size A l) :
    Calls Try.prog 39 #[.slice A l.length c] w fun e w' => (∃ v, e = .returned v ∧ OwnO w' w.heap.size 40 v (comL l)) ∧ Below w.heap.size w w' := by
  obtain ⟨i0, hi0, hz0, hz1, hz2⟩ := info_parts info_O
  have HM := Lib.hid (show l.length ≤ maxLen by unfold maxLen; omega)
  go_enter Try.func39, Try.ntmps39
  go_wp2_with fail
  have hB0 : Below w.heap.size w (w.alloc (Obj.cells #[] 40)) := by (repeat' (first | (with_reducible exact Below.refl _ _) | (with_reducible assumption) | (with_reducible refine Below.al ?_ _) | (with_reducible refine Below.drew ?_) | (with_reducible refine Below.drN ?_ _) | (with_reducible refine Below.via (by with_reducible assumption) ?_) | (with_reducible refine Below.setc ?_ ?_ _) | (with_reducible exact Nat.le_refl _) | (simp; done) | (simp; omega)))
  have hO0 : AppO (w.alloc (Obj.cells #[] 40)) w.heap.size 40 (.slice (some ⟨w.heap.size, 0, none⟩) 0 0) [] := AppO.made (Nat.le_refl _) _ _ (by simp [maxLen]) rfl
  go_loopw [3, 4] (fun v i wr => ∃ (k : Nat) (A' : Option Addr) (c' : Nat), k ≤ l.length ∧ i = .int .i64 k ∧ v = .slice A' ((l.take k).filter fun o => endL l o.tx == 2).length c' ∧ AppO wr w.heap.size 40 (.slice A' ((l.take k).filter fun o => endL l o.tx == 2).length c') ((l.take k).filter fun o => endL l o.tx == 2) ∧ Below w.heap.size w wr) (fun _ i _ => l.length - (intOf i).toNat)
  case atStart => exact ⟨0, _, _, Nat.zero_le _, rfl, rfl, hO0, hB0⟩
  case round =>
    obtain ⟨k, A', c', hk, rfl, rfl, hown, hbw⟩ := hrel
    have HO := Lib.hid hown; clear hown hO0
    have HB := Lib.hid hbw; clear hbw hB0
    by_cases hlt : k < l.length
    · have hRr := hR.on HB.out
      obtain ⟨b, off, rfl, hb, h0, h1, h2⟩ := hRr.at_ hlt
      have HR := Lib.hid hRr; clear hRr
      have hle := filter_take_le (fun o : O3 => endL l o.tx == 2) l k
      have HL := Lib.hid (show ((l.take k).filter fun o => endL l o.tx == 2).length ≤ 4194304 by omega)
      clear hle
      cases e1 : (endL l l[k].tx == 2)
      · go_wp2_with (go_at_call 72; refine (spec_endOf_any _ _ _ _ _ HM.out HR.out).mono ?_; rintro e w1 ⟨rfl, hb1⟩)
        exact ⟨⟨k + 1, A', c', by omega, by go_num, by rw [filter_take_no hlt e1], by rw [filter_take_no hlt e1]; exact HO.out.on (by (repeat' (first | (with_reducible exact Below.refl _ _) | (with_reducible assumption) | (with_reducible refine Below.al ?_ _) | (with_reducible refine Below.drew ?_) | (with_reducible refine Below.drN ?_ _) | (with_reducible refine Below.via (by with_reducible assumption) ?_) | (with_reducible refine Below.setc ?_ ?_ _) | (with_reducible exact Nat.le_refl _) | (simp; done) | (simp; omega)))), by have hbw := HB.out; (repeat' (first | (with_reducible exact Below.refl _ _) | (with_reducible assumption) | (with_reducible refine Below.al ?_ _) | (with_reducible refine Below.drew ?_) | (with_reducible refine Below.drN ?_ _) | (with_reducible refine Below.via (by with_reducible assumption) ?_) | (with_reducible refine Below.setc ?_ ?_ _) | (with_reducible exact Nat.le_refl _) | (simp; done) | (simp; omega)))⟩, by simp [intOf]; omega⟩
      · go_wp2_with (first
          | (go_at_call 72; refine (spec_endOf_any _ _ _ _ _ HM.out HR.out).mono ?_; rintro e w1 ⟨rfl, hb1⟩; obtain ⟨hbc, hbf, hbz⟩ := bcell hb1; have hb3 : w.heap.size ≤ w1.heap.size := (show Below w.heap.size w w1 by have hbw := HB.out; (repeat' (first | (with_reducible exact Below.refl _ _) | (with_reducible assumption) | (with_reducible refine Below.al ?_ _) | (with_reducible refine Below.drew ?_) | (with_reducible refine Below.drN ?_ _) | (with_reducible refine Below.via (by with_reducible assumption) ?_) | (with_reducible refine Below.setc ?_ ?_ _) | (with_reducible exact Nat.le_refl _) | (simp; done) | (simp; omega)))).size; have HO1 := Lib.hid (HO.out.on (show Below wr.heap.size wr w1 by (repeat' (first | (with_reducible exact Below.refl _ _) | (with_reducible assumption) | (with_reducible refine Below.al ?_ _) | (with_reducible refine Below.drew ?_) | (with_reducible refine Below.drN ?_ _) | (with_reducible refine Below.via (by with_reducible assumption) ?_) | (with_reducible refine Below.setc ?_ ?_ _) | (with_reducible exact Nat.le_refl _) | (simp; done) | (simp; omega))))))
          | (at_builtin; refine wpList_app_o _ 26 40 i0 rfl _ _ rfl Try.underlying26 hi0 hz0 hz1 hz2 w.heap.size _ _ rfl HO1.out l[k] _ rfl (by first | rfl | simp) HL.out hb3 ?_; intro A2 c2 w2 hO2 hg2 hb2))
        refine ⟨⟨k + 1, A2, c2, by omega, by go_num, ?_, ?_, ?_⟩, by simp [intOf]; omega⟩
        · rw [filter_take_yes hlt e1]; simp
        · rw [filter_take_yes hlt e1, List.length_append]; exact hO2
        · have hbw := HB.out
          have h4 : Below w.heap.size w w1 := by (repeat' (first | (with_reducible exact Below.refl _ _) | (with_reducible assumption) | (with_reducible refine Below.al ?_ _) | (with_reducible refine Below.drew ?_) | (with_reducible refine Below.drN ?_ _) | (with_reducible refine Below.via (by with_reducible assumption) ?_) | (with_reducible refine Below.setc ?_ ?_ _) | (with_reducible exact Nat.le_refl _) | (simp; done) | (simp; omega)))
          exact h4.trans hb2
    · have hk' : k = l.length := by omega
      have HK := Lib.hid hk'; clear hk'
      go_wp2
      go_ret
      refine ⟨⟨_, rfl, ?_⟩, HB.out⟩
      have h := HO.out.own
      rw [HK.out, List.take_length] at h
      rw [HK.out, List.take_length]
      exact h
set_option maxHeartbeats 400000 in
theorem impl_committedOf1_any (a b c : Int) (g : Nat) (A : Option Addr) (cc : Nat) (l : List O3) (w : World) (hg : g < w.heap.size) (hc : w.cell? ⟨g, 0, none⟩ = some (.slice A l.length cc)) (hl : l.length ≤ maxLen) (hR : RdO w w.heap.size A l) :
    Calls Try.prog 78 #[.agg #[.int .i64 a, .int .i64 b, .int .i64 c], .pointer (some ⟨g, 0, none⟩)] w fun e w' => e = .returned (.bool (endL l a == 2)) ∧ Below w.heap.size w w' := by
  have hne : g ≠ w.heap.size := by omega
  have hc' := fun o => (World.cell?_alloc_old w o ⟨g, 0, none⟩ hne).trans hc
  have HR := Lib.hid hR; clear hR
  have HL := Lib.hid hl; clear hl
  go_enter Try.func78, Try.ntmps78
  go_wp2_with (go_at_call 46; refine (impl_endOf_any _ _ _ _ _ HL.out (HR.out.on (by (repeat' (first | (with_reducible exact Below.refl _ _) | (with_reducible assumption) | (with_reducible refine Below.al ?_ _) | (with_reducible refine Below.drew ?_) | (with_reducible refine Below.drN ?_ _) | (with_reducible refine Below.via (by with_reducible assumption) ?_) | (with_reducible refine Below.setc ?_ ?_ _) | (with_reducible exact Nat.le_refl _) | (simp; done) | (simp; omega)))))).mono ?_; rintro e w1 ⟨rfl, hb1⟩)
  go_ret
  exact ⟨rfl, by (repeat' (first | (with_reducible exact Below.refl _ _) | (with_reducible assumption) | (with_reducible refine Below.al ?_ _) | (with_reducible refine Below.drew ?_) | (with_reducible refine Below.drN ?_ _) | (with_reducible refine Below.via (by with_reducible assumption) ?_) | (with_reducible refine Below.setc ?_ ?_ _) | (with_reducible exact Nat.le_refl _) | (simp; done) | (simp; omega)))⟩
theorem impl_committedOf1_test (g : Nat) (A : Option Addr) (cc : Nat) (l l' : List O3) (w : World) (hg : g < w.heap.size) (hc : w.cell? ⟨g, 0, none⟩ = some (.slice A l.length cc)) (hl : l.length ≤ maxLen) (hR : RdO w w.heap.size A l) : TestOn Try.prog 78 #[.pointer (some ⟨g, 0, none⟩)] w (fun o => endL l o.tx == 2) l' :=
  ⟨Try.call78, fun o _ w1 hb => impl_committedOf1_any o.tx o.kind o.item g A cc l w1 (by have := hb.size; omega) ((hb.cell (p := ⟨g, 0, none⟩) hg).trans hc) hl (hR.on hb)⟩
set_option maxHeartbeats 400000 in
theorem impl_committedOf_any (A : Option Addr) (c : Nat) (l : List O3) (w : World) (hl : l.length ≤ 1048576) (hR : RdO w w.heap.size A l) :
    Calls Try.prog 47 #[.slice A l.length c] w fun e w' => (∃ v, e = .returned v ∧ OwnO w' w.heap.size 40 v (comL l)) ∧ Below w.heap.size w w' := by
  have hm : l.length ≤ maxLen := by unfold maxLen; omega
  have hR1 : RdO (w.alloc (.cells #[.slice A l.length c] 26)) (w.alloc (.cells #[.slice A l.length c] 26)).heap.size A l := hR.on (by (repeat' (first | (with_reducible exact Below.refl _ _) | (with_reducible assumption) | (with_reducible refine Below.al ?_ _) | (with_reducible refine Below.drew ?_) | (with_reducible refine Below.drN ?_ _) | (with_reducible refine Below.via (by with_reducible assumption) ?_) | (with_reducible refine Below.setc ?_ ?_ _) | (with_reducible exact Nat.le_refl _) | (simp; done) | (simp; omega))))
  have hk := impl_kept_any A c l 78 #[.pointer (some ⟨w.heap.size, 0, none⟩)] (fun o => endL l o.tx == 2) (w.alloc (.cells #[.slice A l.length c] 26)) hl hR1 (impl_committedOf1_test w.heap.size A c l l _ (by simp) (by simp) hm hR1)
  have HK := Lib.hid hk; clear hk hR1 hm
  go_enter Try.func47, Try.ntmps47
  go_wp2_with (go_at_call 77; refine (HK.out).mono ?_; rintro e w1 ⟨⟨v, rfl, hO⟩, hb⟩)
  go_ret
  exact ⟨⟨v, rfl, OwnG.low hO (by simp)⟩, by (repeat' (first | (with_reducible exact Below.refl _ _) | (with_reducible assumption) | (with_reducible refine Below.al ?_ _) | (with_reducible refine Below.drew ?_) | (with_reducible refine Below.drN ?_ _) | (with_reducible refine Below.via (by with_reducible assumption) ?_) | (with_reducible refine Below.setc ?_ ?_ _) | (with_reducible exact Nat.le_refl _) | (simp; done) | (simp; omega)))⟩
set_option maxHeartbeats 400000 in
theorem impl_CommittedOf_any (A : Option Addr) (c : Nat) (l : List O3) (w : World) (hl : l.length ≤ 1048576) (hc : l.length ≤ c) (hR : RdO w w.heap.size A l) :
    Calls Try.prog 22 #[.slice A l.length c] w fun e w' => (∃ v, e = .returned v ∧ OwnO w' w.heap.size 40 v (comV l)) ∧ Below w.heap.size w w' := by
  have HM := Lib.hid (show l.length ≤ maxLen by unfold maxLen; omega)
  rcases Bool.eq_false_or_eq_true (tt (ValidP l)) with hv | hv
  all_goals have HV := Lib.hid hv; clear hv
  · go_enter Try.func22, Try.ntmps22
    go_wp2_with (first | (go_at_call 21; refine (impl_ValidSchedule_any _ _ _ _ HM.out hc hR).mono ?_; rintro e w1 ⟨rfl, hb1⟩; rw [HV.out]) | (go_at_call 47; refine (impl_committedOf_any _ _ _ _ hl (hR.on hb1)).mono ?_; rintro e w2 ⟨⟨v, rfl, hO⟩, hb2⟩))
    go_ret
    exact ⟨⟨v, rfl, by rw [comV, HV.out]; exact OwnG.low hO hb1.size⟩, by (repeat' (first | (with_reducible exact Below.refl _ _) | (with_reducible assumption) | (with_reducible refine Below.al ?_ _) | (with_reducible refine Below.drew ?_) | (with_reducible refine Below.drN ?_ _) | (with_reducible refine Below.via (by with_reducible assumption) ?_) | (with_reducible refine Below.setc ?_ ?_ _) | (with_reducible exact Nat.le_refl _) | (simp; done) | (simp; omega)))⟩
  · go_enter Try.func22, Try.ntmps22
    go_wp2_with (go_at_call 21; refine (impl_ValidSchedule_any _ _ _ _ HM.out hc hR).mono ?_; rintro e w1 ⟨rfl, hb1⟩; rw [HV.out])
    go_ret
    exact ⟨⟨_, rfl, by rw [comV, HV.out]; exact OwnO.nil_⟩, by (repeat' (first | (with_reducible exact Below.refl _ _) | (with_reducible assumption) | (with_reducible refine Below.al ?_ _) | (with_reducible refine Below.drew ?_) | (with_reducible refine Below.drN ?_ _) | (with_reducible refine Below.via (by with_reducible assumption) ?_) | (with_reducible refine Below.setc ?_ ?_ _) | (with_reducible exact Nat.le_refl _) | (simp; done) | (simp; omega)))⟩
end Go.Proofs.Ytaflkbemecjcpaa
