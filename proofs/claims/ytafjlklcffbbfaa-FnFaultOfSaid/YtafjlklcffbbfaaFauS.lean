/- The first operation that breaks a rule: contracts of the reference's functions. -/
import Derived.Test.YtafjlklcffbbfaaFauF
namespace Go.Proofs.Ytafjlklcffbbfaa
set_option linter.unusedSimpArgs false
set_option linter.unusedVariables false
open Go.RowKit
theorem any_upto {α : Type} (p : α → Bool) {l : List α} {j : Nat} (hj : j < l.length) : (l.take (j + 1)).any p = ((l.take j).any p || p l[j]) := by
  rw [List.take_succ_eq_append_getElem hj, List.any_append]; simp
theorem any_at {α : Type} (p : α → Bool) {l : List α} {j i : Nat} (hj : j < l.length) (hji : j < i) (h : p l[j] = true) : (l.take i).any p = true := by
  rw [List.any_eq_true]
  exact ⟨l[j], take_mem.2 ⟨j, hj, hji, rfl⟩, h⟩
theorem rn_list0 : (rn 0).toList = ([114, 101, 99, 111, 118, 101, 114, 97, 98, 108, 101] : List UInt8) := by unfold rn; simp
theorem rn_list1 : (rn 1).toList = ([99, 97, 115, 99, 97, 100, 101, 115] : List UInt8) := by unfold rn; simp
theorem rn_list2 : (rn 2).toList = ([115, 116, 114, 105, 99, 116] : List UInt8) := by unfold rn; simp
theorem rn_list3 : (rn 3).toList = ([114, 105, 103, 111, 114, 111, 117, 115] : List UInt8) := by unfold rn; simp
theorem rn_list4 : (rn 4).toList = ([99, 111, 109, 109, 105, 116, 115] : List UInt8) := by unfold rn; simp
set_option maxHeartbeats 1000000 in
theorem spec_committedAt_any (A : Option Addr) (c : Nat) (l : List O3) (t : Int) (i : Nat) (w : World) (hi : i ≤ l.length) (hl : l.length ≤ maxLen) (hR : RdO w w.heap.size A l) :
    Calls Try.prog 60 #[.slice A l.length c, .int .i64 t, .int .i64 i] w fun e w' => e = .returned (.bool (comB l i t)) ∧ w = w' := by
  unfold maxLen at hl
  go_enter Try.func60, Try.ntmps60
  go_wp2_with fail
  go_loop [7] (fun v => ∃ k : Nat, k ≤ i ∧ v = .int .i64 k ∧ (l.take k).any (fun o => o.tx == t && o.kind == 2) = false) (fun v => i - (intOf v).toNat)
  case atStart => exact ⟨0, Nat.zero_le _, rfl, rfl⟩
  case round =>
    obtain ⟨k, hk, rfl, hall⟩ := hrel
    have HA := Lib.hid hall; clear hall
    by_cases hlt : k < i
    · have hkl : k < l.length := by omega
      obtain ⟨b, off, rfl, hb, h0, h1, h2⟩ := hR.at_ hkl
      rcases and2 (l[k].tx == t) (l[k].kind == 2) with e1 | ⟨e1, e2⟩ | ⟨e1, e2⟩
      · have HN := Lib.hid (show (l.take (k + 1)).any (fun o => o.tx == t && o.kind == 2) = false by rw [any_upto _ hkl, HA.out, e1]; rfl)
        go_wp2
        exact ⟨⟨k + 1, by omega, by go_num, HN.out⟩, by simp [intOf]; omega⟩
      · have HN := Lib.hid (show (l.take (k + 1)).any (fun o => o.tx == t && o.kind == 2) = false by rw [any_upto _ hkl, HA.out, e1, e2]; rfl)
        go_wp2
        exact ⟨⟨k + 1, by omega, by go_num, HN.out⟩, by simp [intOf]; omega⟩
      · have HY := Lib.hid (show comB l i t = true from any_at _ hkl hlt (by rw [e1, e2]; rfl))
        go_wp2
        go_ret
        exact ⟨ret_bool HY.out.symm, rfl⟩
    · have hk' : k = i := by omega
      subst hk'
      go_wp2
      go_ret
      exact ⟨ret_bool HA.out.symm, rfl⟩
set_option maxHeartbeats 1000000 in
theorem spec_activeAt_any (A : Option Addr) (c : Nat) (l : List O3) (t : Int) (i : Nat) (w : World) (hi : i ≤ l.length) (hl : l.length ≤ maxLen) (hR : RdO w w.heap.size A l) :
    Calls Try.prog 62 #[.slice A l.length c, .int .i64 t, .int .i64 i] w fun e w' => e = .returned (.bool (actB l i t)) ∧ Below w.heap.size w w' := by
  unfold maxLen at hl
  go_enter Try.func62, Try.ntmps62
  go_wp2_with fail
  go_loopw [7] (fun v wr => ∃ k : Nat, k ≤ i ∧ v = .int .i64 k ∧ (l.take k).any (fun o => o.tx == t && endB o) = false ∧ Below w.heap.size w wr) (fun v _ => i - (intOf v).toNat)
  case atStart => exact ⟨0, Nat.zero_le _, rfl, rfl, Below.refl _ _⟩
  case round =>
    obtain ⟨k, hk, rfl, hall, hbw⟩ := hrel
    have HA := Lib.hid hall; clear hall
    have HB := Lib.hid hbw; clear hbw
    by_cases hlt : k < i
    · have hkl : k < l.length := by omega
      obtain ⟨b, off, rfl, hb, h0, h1, h2⟩ := (hR.on HB.out).at_ hkl
      cases e1 : (l[k].tx == t)
      · have HN := Lib.hid (show (l.take (k + 1)).any (fun o => o.tx == t && endB o) = false by rw [any_upto _ hkl, HA.out, e1]; rfl)
        go_wp2_with fail
        exact ⟨⟨k + 1, by omega, by go_num, HN.out, HB.out⟩, by simp [intOf]; omega⟩
      · cases e2 : endB l[k]
        · have HN := Lib.hid (show (l.take (k + 1)).any (fun o => o.tx == t && endB o) = false by rw [any_upto _ hkl, HA.out, e1, e2]; rfl)
          have E2 := Lib.hid (show endB ⟨l[k].tx, l[k].kind, l[k].item⟩ = false from e2)
          clear e2
          go_wp2_with (go_at_call 44; refine (spec_ends_any _ _ _ _).mono ?_; rintro e w1 ⟨rfl, hb1⟩; rw [E2.out])
          exact ⟨⟨k + 1, by omega, by go_num, HN.out, Below.trans HB.out (hb1.mono HB.out.size)⟩, by simp [intOf]; omega⟩
        · have HY := Lib.hid (show actB l i t = false by unfold actB; rw [any_at (fun o => o.tx == t && endB o) hkl hlt (by rw [e1, e2]; rfl)]; rfl)
          have E2 := Lib.hid (show endB ⟨l[k].tx, l[k].kind, l[k].item⟩ = true from e2)
          clear e2
          go_wp2_with (go_at_call 44; refine (spec_ends_any _ _ _ _).mono ?_; rintro e w1 ⟨rfl, hb1⟩; rw [E2.out])
          go_ret
          exact ⟨ret_bool HY.out.symm, Below.trans HB.out (hb1.mono HB.out.size)⟩
    · have hk' : k = i := by omega
      subst hk'
      go_wp2
      go_ret
      exact ⟨ret_bool (by unfold actB; rw [HA.out]; rfl), HB.out⟩
set_option maxRecDepth 100000 in
set_option maxHeartbeats 4000000 in
theorem spec_breaks5_any (s : ByteArray) (A : Option Addr) (c : Nat) (l : List O3) (i : Nat) (w : World) (hi : i < l.length) (hl : l.length ≤ 1000)
    (f0 : (s.toList == ([114, 101, 99, 111, 118, 101, 114, 97, 98, 108, 101] : List UInt8)) = false)
    (f1 : (s.toList == ([99, 97, 115, 99, 97, 100, 101, 115] : List UInt8)) = false)
    (f2 : (s.toList == ([115, 116, 114, 105, 99, 116] : List UInt8)) = false)
    (f3 : (s.toList == ([114, 105, 103, 111, 114, 111, 117, 115] : List UInt8)) = false)
    (f4 : (s.toList == ([99, 111, 109, 109, 105, 116, 115] : List UInt8)) = false) (hR : RdO w w.heap.size A l) :
    Calls Try.prog 37 #[.string s, .slice A l.length c, .int .i64 i] w fun e w' => e = .returned (.tuple #[.bool (false), .bool false]) ∧ Below w.heap.size w w' := by
  go_enter Try.func37, Try.ntmps37
  go_wp2_with fail
  go_ret2
  exact ⟨rfl, by (repeat' (first | (with_reducible exact Below.refl _ _) | (with_reducible assumption) | (with_reducible refine Below.al ?_ _) | (with_reducible refine Below.drew ?_) | (with_reducible refine Below.drN ?_ _) | (with_reducible refine Below.via (by with_reducible assumption) ?_) | (with_reducible refine Below.setc ?_ ?_ _) | (with_reducible exact Nat.le_refl _) | (simp; done) | (simp; omega)))⟩
set_option maxRecDepth 100000 in
set_option maxHeartbeats 4000000 in
theorem spec_breaks1_any (s : ByteArray) (A : Option Addr) (c : Nat) (l : List O3) (i : Nat) (w : World) (hi : i < l.length) (hl : l.length ≤ 1000)
    (f0 : (s.toList == ([114, 101, 99, 111, 118, 101, 114, 97, 98, 108, 101] : List UInt8)) = false)
    (f1 : (s.toList == ([99, 97, 115, 99, 97, 100, 101, 115] : List UInt8)) = true) (hR : RdO w w.heap.size A l) :
    Calls Try.prog 37 #[.string s, .slice A l.length c, .int .i64 i] w fun e w' => e = .returned (.tuple #[.bool (brkS 1 l i), .bool true]) ∧ Below w.heap.size w w' := by
  have HM := Lib.hid (show l.length ≤ maxLen by unfold maxLen; omega)
  have HR := Lib.hid hR
  obtain ⟨b, off, rfl, hb, g0, g1, g2⟩ := hR.at_ hi
  have hD : brkS 1 l i = ((l[i].kind == 0) && (decide (0 ≤ srcS l i) && (!(srcS l i == l[i].tx) && !comB l i (srcS l i)))) := by show ((atO l i).kind == 0 && dirtyS l i i (atO l i).tx) = _; unfold dirtyS; rw [atO_eq hi]
  clear hR
  cases e0 : (l[i].kind == 0)
  · have HD := Lib.hid (show brkS 1 l i = false by rw [hD, e0]; rfl)
    clear hD
    go_enter Try.func37, Try.ntmps37
    go_wp2_with fail
    go_ret2
    exact ⟨by rw [HD.out]; rfl, by (repeat' (first | (with_reducible exact Below.refl _ _) | (with_reducible assumption) | (with_reducible refine Below.al ?_ _) | (with_reducible refine Below.drew ?_) | (with_reducible refine Below.drN ?_ _) | (with_reducible refine Below.via (by with_reducible assumption) ?_) | (with_reducible refine Below.setc ?_ ?_ _) | (with_reducible exact Nat.le_refl _) | (simp; done) | (simp; omega)))⟩
  · by_cases h1 : 0 ≤ srcS l i
    · cases e2 : (srcS l i == l[i].tx)
      · have e2' := bne_t e2
        have HD := Lib.hid (show brkS 1 l i = !comB l i (srcS l i) by rw [hD, e0, e2]; simp [h1])
        clear hD e2
        go_enter Try.func37, Try.ntmps37
        go_wp2_with fail
        refine (spec_source_any _ _ l i _ hi HM.out HR.out).mono ?_
        rintro e w1 ⟨rfl, hb1⟩
        obtain ⟨b, off, he, hb, k0, k1, k2⟩ := (HR.out.on hb1).at_ hi
        injection he with he; injection he with he4 he5
        subst he4 he5
        go_wp2_with (go_at_call 60; refine (spec_committedAt_any _ _ l _ i _ (by omega) HM.out (HR.out.on hb1)).mono ?_; rintro e w2 ⟨rfl, rfl⟩)
        go_ret2
        exact ⟨by rw [HD.out]; rfl, by (repeat' (first | (with_reducible exact Below.refl _ _) | (with_reducible assumption) | (with_reducible refine Below.al ?_ _) | (with_reducible refine Below.drew ?_) | (with_reducible refine Below.drN ?_ _) | (with_reducible refine Below.via (by with_reducible assumption) ?_) | (with_reducible refine Below.setc ?_ ?_ _) | (with_reducible exact Nat.le_refl _) | (simp; done) | (simp; omega)))⟩
      · have e2' := bne_f e2
        have HD := Lib.hid (show brkS 1 l i = false by rw [hD, e2]; simp)
        clear hD e2
        go_enter Try.func37, Try.ntmps37
        go_wp2_with fail
        refine (spec_source_any _ _ l i _ hi HM.out HR.out).mono ?_
        rintro e w1 ⟨rfl, hb1⟩
        obtain ⟨b, off, he, hb, k0, k1, k2⟩ := (HR.out.on hb1).at_ hi
        injection he with he; injection he with he4 he5
        subst he4 he5
        go_wp2_with fail
        go_ret2
        exact ⟨by rw [HD.out]; rfl, by (repeat' (first | (with_reducible exact Below.refl _ _) | (with_reducible assumption) | (with_reducible refine Below.al ?_ _) | (with_reducible refine Below.drew ?_) | (with_reducible refine Below.drN ?_ _) | (with_reducible refine Below.via (by with_reducible assumption) ?_) | (with_reducible refine Below.setc ?_ ?_ _) | (with_reducible exact Nat.le_refl _) | (simp; done) | (simp; omega)))⟩
    · have HD := Lib.hid (show brkS 1 l i = false by rw [hD]; simp [h1])
      clear hD
      go_enter Try.func37, Try.ntmps37
      go_wp2_with fail
      refine (spec_source_any _ _ l i _ hi HM.out HR.out).mono ?_
      rintro e w1 ⟨rfl, hb1⟩
      go_wp2_with fail
      go_ret2
      exact ⟨by rw [HD.out]; rfl, by (repeat' (first | (with_reducible exact Below.refl _ _) | (with_reducible assumption) | (with_reducible refine Below.al ?_ _) | (with_reducible refine Below.drew ?_) | (with_reducible refine Below.drN ?_ _) | (with_reducible refine Below.via (by with_reducible assumption) ?_) | (with_reducible refine Below.setc ?_ ?_ _) | (with_reducible exact Nat.le_refl _) | (simp; done) | (simp; omega)))⟩
end Go.Proofs.Ytafjlklcffbbfaa
