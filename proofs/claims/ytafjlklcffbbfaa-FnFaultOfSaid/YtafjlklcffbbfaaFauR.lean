/- The first operation that breaks a rule: contracts of the program's rules. -/
import Derived.Test.YtafjlklcffbbfaaFauI
namespace Go.Proofs.Ytafjlklcffbbfaa
set_option linter.unusedSimpArgs false
set_option linter.unusedVariables false
open Go.RowKit
set_option maxHeartbeats 1000000 in
theorem impl_rule1_any (A : Option Addr) (c : Nat) (l : List O3) (i : Nat) (w : World) (hi : i < l.length) (hl : l.length ≤ maxLen) (hc : l.length ≤ c) (hR : RdO w w.heap.size A l) :
    Calls Try.prog 65 #[.slice A l.length c, .int .i64 i] w fun e w' => e = .returned (.bool (brkI 1 l i)) ∧ Below w.heap.size w w' := by
  have HM := Lib.hid hl; clear hl
  obtain ⟨b, off, rfl, hb, h0, h1, h2⟩ := hR.at_ hi
  have hD : brkI 1 l i = ((l[i].kind == 0) && dirtyI l i i) := by show ((atO l i).kind == 0 && dirtyI l i i) = _; rw [atO_eq hi]
  cases e1 : (l[i].kind == 0)
  · have HD := Lib.hid (show brkI 1 l i = false by rw [hD, e1]; rfl)
    clear hD
    go_enter Try.func65, Try.ntmps65
    go_wp2_with fail
    go_ret
    exact ⟨ret_bool HD.out.symm, by (repeat' (first | (with_reducible exact Below.refl _ _) | (with_reducible assumption) | (with_reducible refine Below.al ?_ _) | (with_reducible refine Below.drew ?_) | (with_reducible refine Below.drN ?_ _) | (with_reducible refine Below.via (by with_reducible assumption) ?_) | (with_reducible refine Below.setc ?_ ?_ _) | (with_reducible exact Nat.le_refl _) | (simp; done) | (simp; omega)))⟩
  · have HD := Lib.hid (show brkI 1 l i = dirtyI l i i by rw [hD, e1]; rfl)
    clear hD
    go_enter Try.func65, Try.ntmps65
    go_wp2_with (go_at_call 64; refine (impl_dirty_any _ _ l i i _ hi (by omega) HM.out hc hR).mono ?_; rintro e w1 ⟨rfl, hb1⟩)
    go_ret
    exact ⟨ret_bool HD.out.symm, by (repeat' (first | (with_reducible exact Below.refl _ _) | (with_reducible assumption) | (with_reducible refine Below.al ?_ _) | (with_reducible refine Below.drew ?_) | (with_reducible refine Below.drN ?_ _) | (with_reducible refine Below.via (by with_reducible assumption) ?_) | (with_reducible refine Below.setc ?_ ?_ _) | (with_reducible exact Nat.le_refl _) | (simp; done) | (simp; omega)))⟩
theorem impl_isWrite_any (o : O3) (w : World) :
    Calls Try.prog 68 #[.agg #[.int .i64 o.tx, .int .i64 o.kind, .int .i64 o.item]] w fun e w' => e = .returned (.bool (o.kind == 1)) ∧ Below w.heap.size w w' := by
  go_enter Try.func68, Try.ntmps68
  go_wp2
  go_ret
  exact ⟨rfl, by (repeat' (first | (with_reducible exact Below.refl _ _) | (with_reducible assumption) | (with_reducible refine Below.al ?_ _) | (with_reducible refine Below.drew ?_) | (with_reducible refine Below.drN ?_ _) | (with_reducible refine Below.via (by with_reducible assumption) ?_) | (with_reducible refine Below.setc ?_ ?_ _) | (with_reducible exact Nat.le_refl _) | (simp; done) | (simp; omega)))⟩
theorem impl_rule2_any (A : Option Addr) (c : Nat) (l : List O3) (i : Nat) (w : World) (hi : i < l.length) (hl : l.length ≤ maxLen) (hc : l.length ≤ c) (hR : RdO w w.heap.size A l) :
    Calls Try.prog 66 #[.slice A l.length c, .int .i64 i] w fun e w' => e = .returned (.bool (brkI 2 l i)) ∧ Below w.heap.size w w' := by
  have HM := Lib.hid hl; clear hl
  go_enter Try.func66, Try.ntmps66
  go_wp2_with (go_at_call 67; refine (impl_open_any _ _ 68 (fun o => o.kind == 1) l i _ hi HM.out hc Try.call68 (fun o w1 => impl_isWrite_any o w1) hR).mono ?_; rintro e w1 ⟨rfl, hb1⟩)
  go_ret
  exact ⟨rfl, hb1⟩
theorem impl_rule3_any (A : Option Addr) (c : Nat) (l : List O3) (i : Nat) (w : World) (hi : i < l.length) (hl : l.length ≤ maxLen) (hc : l.length ≤ c) (hR : RdO w w.heap.size A l) :
    Calls Try.prog 69 #[.slice A l.length c, .int .i64 i] w fun e w' => e = .returned (.bool (brkI 3 l i)) ∧ Below w.heap.size w w' := by
  have HM := Lib.hid hl; clear hl
  go_enter Try.func69, Try.ntmps69
  go_wp2_with (go_at_call 67; refine (impl_open_any _ _ 70 accB l i _ hi HM.out hc Try.call70 (fun o w1 => impl_access_any _ _ _ w1) hR).mono ?_; rintro e w1 ⟨rfl, hb1⟩)
  go_ret
  exact ⟨rfl, hb1⟩
set_option maxHeartbeats 2000000 in
theorem impl_rule0_any (A : Option Addr) (c : Nat) (l : List O3) (i : Nat) (w : World) (hi : i < l.length) (hl : l.length ≤ maxLen) (hc : l.length ≤ c) (hR : RdO w w.heap.size A l) :
    Calls Try.prog 63 #[.slice A l.length c, .int .i64 i] w fun e w' => e = .returned (.bool (brkI 0 l i)) ∧ Below w.heap.size w w' := by
  have HM := Lib.hid hl; unfold maxLen at hl
  have hic : i ≤ c := by omega
  have hB : brkI 0 l i = ((l[i].kind == 2) && anyTo (p0I l i) i) := by show ((atO l i).kind == 2 && anyTo (p0I l i) i) = _; rw [atO_eq hi]
  have HB0 := Lib.hid hB; clear hB
  have HRA := Lib.hid hR
  go_enter Try.func63, Try.ntmps63
  go_wp2_with fail
  go_loopw [5, 6, 11] (fun _ _ v11 wr => ∃ k : Nat, k ≤ i ∧ v11 = .int .i64 k ∧ (l[i].kind == 2 && anyTo (p0I l i) k) = false ∧ Below w.heap.size w wr) (fun _ _ v11 _ => i - (intOf v11).toNat)
  case atStart => exact ⟨0, Nat.zero_le _, rfl, by simp [anyTo], Below.refl _ _⟩
  case round =>
    obtain ⟨k, hk, rfl, hall, hbw⟩ := hrel
    have HA := Lib.hid hall; clear hall
    have HB := Lib.hid hbw; clear hbw
    by_cases hlt : k < i
    · have hkl : k < l.length := by omega
      have hp : p0I l i k = ((l[k].tx == l[i].tx) && ((l[k].kind == 0) && dirtyI l k i)) := by unfold p0I; rw [atO_eq hi, atO_eq hkl]
      obtain ⟨wb, hwb⟩ : ∃ wb, wb = wr.alloc (.cells #[.int .i64 l[k].tx, .int .i64 l[k].kind, .int .i64 l[k].item] 43) := ⟨_, rfl⟩
      have hal : Below wr.heap.size wr wb := by rw [hwb]; (repeat' (first | (with_reducible exact Below.refl _ _) | (with_reducible assumption) | (with_reducible refine Below.al ?_ _) | (with_reducible refine Below.drew ?_) | (with_reducible refine Below.drN ?_ _) | (with_reducible refine Below.via (by with_reducible assumption) ?_) | (with_reducible refine Below.setc ?_ ?_ _) | (with_reducible exact Nat.le_refl _) | (simp; done) | (simp; omega)))
      have hbx : Bx3 wb wr.heap.size 43 l[k].tx l[k].kind l[k].item := by rw [hwb]; exact Bx3.made wr _ _ _ _
      obtain ⟨x0, x1, x2, x3, x4, x5, x6⟩ := hbx.at_
      have HBb := Lib.hid (Below.trans HB.out (hal.mono HB.out.size))
      have HR2 := Lib.hid (HRA.out.on HBb.out)
      obtain ⟨b, off, rfl, hb, h0, h1, h2⟩ := (HRA.out.on HB.out).at_ hkl
      obtain ⟨b3, off3, he3, hb3, q0, q1, q2⟩ := HR2.out.at_ hi
      injection he3 with he3; injection he3 with he4 he5
      subst he4 he5
      clear hbx hal
      cases e1 : (l[i].kind == 2)
      · have HN := Lib.hid (show (false && anyTo (p0I l i) (k + 1)) = false from rfl)
        clear hp
        go_wp2_with fail
        rw [← hwb]
        clear hwb
        ((first | (with_reducible refine wp_region_from (by with_reducible assumption) follows (by kernel_rfl) ?_) | (refine wp_region_aft follows (by kernel_rfl) ?_)); (repeat (go_big_quiet_step (fail))); refine wpQuiet_nil ?_; intro _ hw'; obtain ⟨⟨w1, hb⟩, rfl⟩ := hw'; (try dsimp only); first | (replace hb := Below.via hb (by with_reducible assumption); (try clear hbc hbf hbz); obtain ⟨hbc, hbf, hbz⟩ := bcell hb) | (obtain ⟨hbc, hbf, hbz⟩ := bcell hb))
        go_wp2
        exact ⟨⟨k + 1, by omega, by go_num, HN.out, Below.trans HBb.out (hb.mono HBb.out.size)⟩, by simp [intOf]; omega⟩
      · rw [e1] at HA
        have HA' := Lib.hid (show anyTo (p0I l i) k = false from HA.out)
        cases e2 : (l[k].tx == l[i].tx)
        · have HN := Lib.hid (show (true && anyTo (p0I l i) (k + 1)) = false from anyTo_on HA'.out (by rw [hp, e2]; rfl))
          clear hp
          go_wp2_with fail
          rw [← hwb]
          clear hwb
          ((first | (with_reducible refine wp_region_from (by with_reducible assumption) follows (by kernel_rfl) ?_) | (refine wp_region_aft follows (by kernel_rfl) ?_)); (repeat (go_big_quiet_step (fail))); refine wpQuiet_nil ?_; intro _ hw'; obtain ⟨⟨w1, hb⟩, rfl⟩ := hw'; (try dsimp only); first | (replace hb := Below.via hb (by with_reducible assumption); (try clear hbc hbf hbz); obtain ⟨hbc, hbf, hbz⟩ := bcell hb) | (obtain ⟨hbc, hbf, hbz⟩ := bcell hb))
          go_wp2
          exact ⟨⟨k + 1, by omega, by go_num, HN.out, Below.trans HBb.out (hb.mono HBb.out.size)⟩, by simp [intOf]; omega⟩
        · cases e3 : (l[k].kind == 0)
          · have HN := Lib.hid (show (true && anyTo (p0I l i) (k + 1)) = false from anyTo_on HA'.out (by rw [hp, e2, e3]; rfl))
            clear hp
            go_wp2_with fail
            rw [← hwb]
            clear hwb
            ((first | (with_reducible refine wp_region_from (by with_reducible assumption) follows (by kernel_rfl) ?_) | (refine wp_region_aft follows (by kernel_rfl) ?_)); (repeat (go_big_quiet_step (fail))); refine wpQuiet_nil ?_; intro _ hw'; obtain ⟨⟨w1, hb⟩, rfl⟩ := hw'; (try dsimp only); first | (replace hb := Below.via hb (by with_reducible assumption); (try clear hbc hbf hbz); obtain ⟨hbc, hbf, hbz⟩ := bcell hb) | (obtain ⟨hbc, hbf, hbz⟩ := bcell hb))
            go_wp2
            exact ⟨⟨k + 1, by omega, by go_num, HN.out, Below.trans HBb.out (hb.mono HBb.out.size)⟩, by simp [intOf]; omega⟩
          · cases e4 : dirtyI l k i
            · have HN := Lib.hid (show (true && anyTo (p0I l i) (k + 1)) = false from anyTo_on HA'.out (by rw [hp, e2, e3, e4]; rfl))
              have E4 := Lib.hid e4
              clear hp e4
              go_wp2_with fail
              rw [← hwb]
              clear hwb
              ((first | (with_reducible refine wp_region_from (by with_reducible assumption) follows (by kernel_rfl) ?_) | (refine wp_region_aft follows (by kernel_rfl) ?_)); (repeat (go_big_quiet_step ((go_at_call 64; exact aftb (impl_dirty_any _ _ l k i _ hkl (Nat.le_of_lt hi) HM.out hc (HR2.out.on (After.below _))) (E4.out))))); refine wpQuiet_nil ?_; intro _ hw'; obtain ⟨⟨w1, hb⟩, rfl⟩ := hw'; (try dsimp only); first | (replace hb := Below.via hb (by with_reducible assumption); (try clear hbc hbf hbz); obtain ⟨hbc, hbf, hbz⟩ := bcell hb) | (obtain ⟨hbc, hbf, hbz⟩ := bcell hb))
              go_wp2
              exact ⟨⟨k + 1, by omega, by go_num, HN.out, Below.trans HBb.out (hb.mono HBb.out.size)⟩, by simp [intOf]; omega⟩
            · have HY := Lib.hid (show brkI 0 l i = true by rw [HB0.out, e1]; exact anyTo_hit hlt (by rw [hp, e2, e3, e4]; rfl))
              have E4 := Lib.hid e4
              clear hp e4
              go_wp2_with fail
              rw [← hwb]
              clear hwb
              ((first | (with_reducible refine wp_region_from (by with_reducible assumption) follows (by kernel_rfl) ?_) | (refine wp_region_aft follows (by kernel_rfl) ?_)); (repeat (go_big_quiet_step ((go_at_call 64; exact aftb (impl_dirty_any _ _ l k i _ hkl (Nat.le_of_lt hi) HM.out hc (HR2.out.on (After.below _))) (E4.out))))); refine wpQuiet_nil ?_; intro _ hw'; obtain ⟨⟨w1, hb⟩, rfl⟩ := hw'; (try dsimp only); first | (replace hb := Below.via hb (by with_reducible assumption); (try clear hbc hbf hbz); obtain ⟨hbc, hbf, hbz⟩ := bcell hb) | (obtain ⟨hbc, hbf, hbz⟩ := bcell hb))
              go_wp2
              go_ret
              exact ⟨ret_bool HY.out.symm, Below.trans HBb.out (hb.mono HBb.out.size)⟩
    · have hk' : k = i := by omega
      have HK := Lib.hid hk'; clear hk'
      go_wp2
      go_ret
      exact ⟨ret_bool (by have h := HA.out; rw [HK.out] at h; rw [HB0.out]; exact h.symm), HB.out⟩
end Go.Proofs.Ytafjlklcffbbfaa
