/- The first operation that breaks a rule: contracts of the program's FaultOf and Keeps. -/
import Derived.Test.YtafjlklcffbbfaaFauT
import Derived.Laws.EntriesVeiled
namespace Go.Proofs.Ytafjlklcffbbfaa
set_option linter.unusedSimpArgs false
set_option linter.unusedVariables false
open Go.RowKit
def rn : Nat → ByteArray
  | 0 => (⟨#[114, 101, 99, 111, 118, 101, 114, 97, 98, 108, 101]⟩ : ByteArray)
  | 1 => (⟨#[99, 97, 115, 99, 97, 100, 101, 115]⟩ : ByteArray)
  | 2 => (⟨#[115, 116, 114, 105, 99, 116]⟩ : ByteArray)
  | 3 => (⟨#[114, 105, 103, 111, 114, 111, 117, 115]⟩ : ByteArray)
  | _ => (⟨#[99, 111, 109, 109, 105, 116, 115]⟩ : ByteArray)
def ruleOf (s : ByteArray) : Option Nat := (List.range 5).find? fun k => (rn k).toList == s.toList
theorem ruleOf_some {s : ByteArray} {k : Nat} (h : ruleOf s = some k) : k < 5 ∧ ((rn k).toList == s.toList) = true ∧ ∀ j, j < k → ((rn j).toList == s.toList) = false := by
  unfold ruleOf at h
  obtain ⟨h1, xs, bs, h2, h3⟩ := List.find?_eq_some_iff_append.1 h
  have hk : k ∈ List.range 5 := by rw [h2]; simp
  rw [List.mem_range] at hk
  refine ⟨hk, h1, fun j hj => ?_⟩
  have hl : (List.range 5)[xs.length]? = some k := by rw [h2]; simp
  have hal : xs.length = k := by
    rw [List.getElem?_range] at hl
    · simpa using hl
    · have := congrArg List.length h2
      simp at this; omega
  have hja : j ∈ xs := by
    have hj5 : (List.range 5)[j]? = some j := by rw [List.getElem?_range (by omega)]
    rw [h2, List.getElem?_append_left (by omega)] at hj5
    exact List.mem_of_getElem? hj5
  have := h3 j hja
  simpa using this
theorem ruleOf_none {s : ByteArray} (h : ruleOf s = none) {k : Nat} (hk : k < 5) : ((rn k).toList == s.toList) = false := by
  unfold ruleOf at h
  rw [List.find?_eq_none] at h
  have := h k (List.mem_range.2 hk)
  simpa using this
theorem ruleOf_is {s : ByteArray} {k : Nat} (hk : k < 5) (h1 : ((rn k).toList == s.toList) = true) (h2 : ∀ j, j < k → ((rn j).toList == s.toList) = false) : ruleOf s = some k := by
  cases h : ruleOf s with
  | none => rw [ruleOf_none h hk] at h1; cases h1
  | some m =>
    obtain ⟨h3, h4, h5⟩ := ruleOf_some h
    rcases Nat.lt_trichotomy m k with h6 | h6 | h6
    · rw [h2 m h6] at h4; cases h4
    · rw [h6]
    · rw [h5 k h6] at h1; cases h1
theorem ruleOf_not {s : ByteArray} (h : ∀ j, j < 5 → ((rn j).toList == s.toList) = false) : ruleOf s = none := by
  cases h1 : ruleOf s with
  | none => rfl
  | some m =>
    obtain ⟨h3, h4, _⟩ := ruleOf_some h1
    rw [h m h3] at h4; cases h4
def ruleF : Nat → FuncId
  | 0 => 63
  | 1 => 65
  | 2 => 66
  | 3 => 69
  | _ => 71
theorem rule_go (k : Nat) : ∀ args w, (callFunc (ruleF k) args).run Try.prog w = .ok (.enter (ruleF k) args) w := by
  match k with
  | 0 => exact Try.call63
  | 1 => exact Try.call65
  | 2 => exact Try.call66
  | 3 => exact Try.call69
  | n + 4 => exact Try.call71
theorem impl_rule_any (r : Nat) (hr : r < 5) (A : Option Addr) (c : Nat) (l : List O3) (i : Nat) (w : World) (hi : i < l.length) (hl : l.length ≤ 1000) (hc : l.length ≤ c) (hc2 : c ≤ maxLen) (hR : RdO w w.heap.size A l) :
    Calls Try.prog (ruleF r) #[.slice A l.length c, .int .i64 i] w fun e w' => e = .returned (.bool (brkI r l i)) ∧ Below w.heap.size w w' := by
  have HM : l.length ≤ maxLen := by unfold maxLen; omega
  match r with
  | 0 => exact impl_rule0_any A c l i w hi HM hc hR
  | 1 => exact impl_rule1_any A c l i w hi HM hc hR
  | 2 => exact impl_rule2_any A c l i w hi HM hc hR
  | 3 => exact impl_rule3_any A c l i w hi HM hc hR
  | 4 => exact impl_rule4_any A c l i w hi hl hc hc2 hR
  | n + 5 => omega
theorem fault_ge (r : Option Nat) (l : List O3) : (faultV r l).1 = -1 ∨ 0 ≤ (faultV r l).1 := by
  unfold faultV
  split
  · exact .inl rfl
  · split
    · rcases fst_cases (brkI _ l) l.length with ⟨h, _⟩ | ⟨k, _, h, _⟩
      · exact .inl h
      · exact .inr (by show 0 ≤ fstTo _ _; rw [h]; omega)
    · exact .inl rfl
theorem keeps_eq (r : Option Nat) (l : List O3) : keepsV r l = ((faultV r l).2 && ((faultV r l).1 == -1)) := by
  unfold keepsV
  congr 1
  rcases fault_ge r l with h | h
  · rw [h]; rfl
  · have h1 : ¬ (faultV r l).1 < 0 := by omega
    have h2 : ((faultV r l).1 == -1) = false := by simp; omega
    rw [h2]; simp [h1]
/-- The rules in memory. -/
def RulesAt (w : World) (g : Nat) : Prop := g < w.heap.size ∧ ∀ k, k < 5 → w.cell? ⟨g, k * 2, none⟩ = some (.string (rn k)) ∧ w.cell? ⟨g, k * 2 + 1, none⟩ = some (.func (.func (ruleF k)) #[] #[])
theorem RulesAt.on {w w1 : World} {g : Nat} (h : RulesAt w g) (hb : Below w.heap.size w w1) : RulesAt w1 g :=
  ⟨by have := hb.size; have := h.1; omega, fun k hk => ⟨(hb.cell (p := ⟨g, k * 2, none⟩) h.1).trans (h.2 k hk).1, (hb.cell (p := ⟨g, k * 2 + 1, none⟩) h.1).trans (h.2 k hk).2⟩⟩
set_option maxHeartbeats 1000000 in
theorem impl_rules_any (w : World) :
    Calls Try.prog 39 #[] w fun e w' => e = .returned (.slice (some ⟨w.heap.size, 0, none⟩) 5 5) ∧ RulesAt w' w.heap.size ∧ Below w.heap.size w w' := by
  go_enter Try.func39, Try.ntmps39
  go_wp2_with fail
  go_ret
  refine ⟨rfl, ⟨by simp, fun k hk => ?_⟩, by (repeat' (first | (with_reducible exact Below.refl _ _) | (with_reducible assumption) | (with_reducible refine Below.al ?_ _) | (with_reducible refine Below.drew ?_) | (with_reducible refine Below.drN ?_ _) | (with_reducible refine Below.via (by with_reducible assumption) ?_) | (with_reducible refine Below.setc ?_ ?_ _) | (with_reducible exact Nat.le_refl _) | (simp; done) | (simp; omega)))⟩
  rcases (show k = 0 ∨ k = 1 ∨ k = 2 ∨ k = 3 ∨ k = 4 by omega) with rfl | rfl | rfl | rfl | rfl <;> simp [rn, ruleF]
set_option maxHeartbeats 2000000 in
theorem impl_FaultOf_any (s : ByteArray) (A : Option Addr) (c : Nat) (l : List O3) (w : World) (hl : l.length ≤ 1048576) (hc : l.length ≤ c) (hc2 : c ≤ maxLen) (hR : RdO w w.heap.size A l) :
    Calls Try.prog 23 #[.string s, .slice A l.length c] w fun e w' => e = .returned (.tuple #[.int .i64 (faultV (ruleOf s) l).1, .bool (faultV (ruleOf s) l).2]) ∧ Below w.heap.size w w' := by
  have HM := Lib.hid (show l.length ≤ maxLen by unfold maxLen; omega)
  rcases Bool.eq_false_or_eq_true (tt (ValidP l)) with hv | hv
  all_goals have HV := Lib.hid hv
  · have hl16 := (tt_eq.1 hv).1
    have HC2 := Lib.hid hc2
    clear hv hc2
    go_enter Try.func23, Try.ntmps23
    go_wp2_with (first | (go_at_call 30; refine (impl_ValidSchedule_any _ _ _ _ HM.out hc hR).mono ?_; rintro e w1 ⟨rfl, hb1⟩; rw [HV.out]) | (go_at_call 39; refine (impl_rules_any _).mono ?_; rintro e w2 ⟨rfl, hru, hb2⟩))
    have HRU := Lib.hid hru
    have HB2 := Lib.hid (Below.trans hb1 (hb2.mono hb1.size))
    have HRA := Lib.hid (hR.on HB2.out)
    clear hru hb1 hb2 hR
    go_loopw [7, 14] (fun _ v14 wr => ∃ k : Nat, k ≤ 5 ∧ v14 = .int .i64 k ∧ (∀ j, j < k → ((rn j).toList == s.toList) = false) ∧ Below w2.heap.size w2 wr) (fun _ v14 _ => 5 - (intOf v14).toNat)
    case atStart => exact ⟨0, by omega, rfl, fun j hj => absurd hj (by omega), Below.refl _ _⟩
    case round =>
      obtain ⟨k, hk, rfl, hno, hbw⟩ := hrel
      have HN := Lib.hid hno; clear hno
      have HB := Lib.hid hbw; clear hbw
      by_cases hlt : k < 5
      · have hlt' : (k : Int) < 5 := by omega
        obtain ⟨hg, hcs⟩ := HRU.out.on HB.out
        obtain ⟨c0, c1⟩ := hcs k hlt
        have HGO := rule_go k
        cases e1 : ((rn k).toList == s.toList)
        · have HNX := Lib.hid (show ∀ j, j < k + 1 → ((rn j).toList == s.toList) = false from fun j hj => by
            by_cases e : j = k
            · subst e; exact e1
            · exact HN.out j (by omega))
          go_wp2_with fail
          exact ⟨⟨k + 1, by omega, by go_num, HNX.out, by have hbw := HB.out; (repeat' (first | (with_reducible exact Below.refl _ _) | (with_reducible assumption) | (with_reducible refine Below.al ?_ _) | (with_reducible refine Below.drew ?_) | (with_reducible refine Below.drN ?_ _) | (with_reducible refine Below.via (by with_reducible assumption) ?_) | (with_reducible refine Below.setc ?_ ?_ _) | (with_reducible exact Nat.le_refl _) | (simp; done) | (simp; omega)))⟩, by simp [intOf]; omega⟩
        · have HF := Lib.hid (show faultV (ruleOf s) l = (fstTo (brkI k l) l.length, true) by rw [ruleOf_is hlt e1 HN.out]; unfold faultV; simp only [HV.out, if_true])
          obtain ⟨wo, hwo⟩ : ∃ wo : World, wo = wr := ⟨_, rfl⟩
          subst hwo
          obtain ⟨wb, hwb⟩ : ∃ wb, wb = wo.alloc (.cells #[.string (rn k), .func (.func (ruleF k)) #[] #[]] 58) := ⟨_, rfl⟩
          have hal : Below wo.heap.size wo wb := by rw [hwb]; (repeat' (first | (with_reducible exact Below.refl _ _) | (with_reducible assumption) | (with_reducible refine Below.al ?_ _) | (with_reducible refine Below.drew ?_) | (with_reducible refine Below.drN ?_ _) | (with_reducible refine Below.via (by with_reducible assumption) ?_) | (with_reducible refine Below.setc ?_ ?_ _) | (with_reducible exact Nat.le_refl _) | (simp; done) | (simp; omega)))
          have x0 : wo.heap.size < wb.heap.size := by rw [hwb]; simp
          have x1 : wb.cell? ⟨wo.heap.size, 1, none⟩ = some (.func (.func (ruleF k)) #[] #[]) := by rw [hwb]; simp
          have HBb := Lib.hid (Below.trans HB.out (hal.mono HB.out.size))
          clear hal
          go_wp2_with fail
          rw [← hwb]
          clear hwb
          go_loopw [8, 24] (fun _ v24 wr => ∃ i : Nat, i ≤ l.length ∧ v24 = .int .i64 i ∧ anyTo (brkI k l) i = false ∧ Below wb.heap.size wb wr) (fun _ v24 _ => l.length - (intOf v24).toNat)
          case atStart => exact ⟨0, Nat.zero_le _, rfl, rfl, Below.refl _ _⟩
          case round =>
            obtain ⟨i, hi, rfl, hno, hbw⟩ := hrel
            have HI := Lib.hid hno; clear hno
            have HBi := Lib.hid hbw; clear hbw
            by_cases hil : i < l.length
            · have y1 := (HBi.out.cell (p := ⟨wo.heap.size, 1, none⟩) x0).trans x1
              have y0 : wo.heap.size < wr.heap.size := by have := HBi.out.size; omega
              have HRi := Lib.hid ((HRA.out.on (Below.trans HBb.out (HBi.out.mono HBb.out.size))))
              cases e2 : brkI k l i
              · have HX := Lib.hid (anyTo_on HI.out e2)
                have E2 := Lib.hid e2
                clear e2
                go_wp2_with fail
                refine (impl_rule_any k hlt _ _ l i _ hil (by omega) hc HC2.out HRi.out).mono ?_
                rintro e w5 ⟨rfl, hb5⟩
                rw [E2.out]
                go_wp2
                exact ⟨⟨i + 1, by omega, by go_num, HX.out, Below.trans HBi.out (hb5.mono HBi.out.size)⟩, by simp [intOf]; omega⟩
              · have HX := Lib.hid (fst_hit HI.out e2 hil)
                have E2 := Lib.hid e2
                clear e2
                go_wp2_with fail
                refine (impl_rule_any k hlt _ _ l i _ hil (by omega) hc HC2.out HRi.out).mono ?_
                rintro e w5 ⟨rfl, hb5⟩
                rw [E2.out]
                go_wp2
                go_ret2
                exact ⟨by rw [HF.out, HX.out]; rfl, Below.trans HB2.out ((Below.trans HBb.out ((Below.trans HBi.out (hb5.mono HBi.out.size)).mono HBb.out.size)).mono HB2.out.size)⟩
            · have hi' : i = l.length := by omega
              have HK := Lib.hid hi'; clear hi'
              go_wp2
              go_ret2
              exact ⟨by rw [HF.out, fst_none (by rw [← HK.out]; exact HI.out)]; rfl, Below.trans HB2.out ((Below.trans HBb.out (HBi.out.mono HBb.out.size)).mono HB2.out.size)⟩
      · have hk' : k = 5 := by omega
        have HF := Lib.hid (show faultV (ruleOf s) l = (-1, false) by rw [ruleOf_not (by rw [← hk']; exact HN.out)]; rfl)
        clear hk'
        go_wp2
        go_ret2
        exact ⟨by rw [HF.out]; rfl, Below.trans HB2.out (HB.out.mono HB2.out.size)⟩
  · have HF := Lib.hid (show faultV (ruleOf s) l = (-1, false) by unfold faultV; split; rfl; simp only [HV.out]; rfl)
    clear hv
    go_enter Try.func23, Try.ntmps23
    go_wp2_with (go_at_call 30; refine (impl_ValidSchedule_any _ _ _ _ HM.out hc hR).mono ?_; rintro e w1 ⟨rfl, hb1⟩; rw [HV.out])
    go_ret2
    exact ⟨by rw [HF.out]; rfl, by (repeat' (first | (with_reducible exact Below.refl _ _) | (with_reducible assumption) | (with_reducible refine Below.al ?_ _) | (with_reducible refine Below.drew ?_) | (with_reducible refine Below.drN ?_ _) | (with_reducible refine Below.via (by with_reducible assumption) ?_) | (with_reducible refine Below.setc ?_ ?_ _) | (with_reducible exact Nat.le_refl _) | (simp; done) | (simp; omega)))⟩
set_option maxHeartbeats 400000 in
theorem impl_Keeps_any (s : ByteArray) (A : Option Addr) (c : Nat) (l : List O3) (w : World) (hl : l.length ≤ 1048576) (hc : l.length ≤ c) (hc2 : c ≤ maxLen) (hR : RdO w w.heap.size A l) :
    Calls Try.prog 25 #[.string s, .slice A l.length c] w fun e w' => e = .returned (.bool (keepsV (ruleOf s) l)) ∧ Below w.heap.size w w' := by
  have HK := Lib.hid (show keepsV (ruleOf s) l = ((faultV (ruleOf s) l).2 && ((faultV (ruleOf s) l).1 == -1)) from keeps_eq _ _)
  cases e1 : (faultV (ruleOf s) l).2
  · have HD := Lib.hid (show keepsV (ruleOf s) l = false by rw [HK.out, e1]; rfl)
    have E1 := Lib.hid e1; clear e1
    go_enter Try.func25, Try.ntmps25
    go_wp2_with (go_at_call 23; refine (impl_FaultOf_any _ _ _ _ _ hl hc hc2 hR).mono ?_; rintro e w1 ⟨rfl, hb1⟩; rw [E1.out])
    go_ret
    exact ⟨ret_bool HD.out.symm, hb1⟩
  · have HD := Lib.hid (show keepsV (ruleOf s) l = ((faultV (ruleOf s) l).1 == -1) by rw [HK.out, e1]; rfl)
    have E1 := Lib.hid e1; clear e1
    go_enter Try.func25, Try.ntmps25
    go_wp2_with (go_at_call 23; refine (impl_FaultOf_any _ _ _ _ _ hl hc hc2 hR).mono ?_; rintro e w1 ⟨rfl, hb1⟩; rw [E1.out])
    go_ret
    exact ⟨ret_bool HD.out.symm, hb1⟩
end Go.Proofs.Ytafjlklcffbbfaa
