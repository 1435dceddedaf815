/- The first operation that breaks a rule: the reference's rules. -/
import Derived.Test.YtafjlklcffbbfaaFauS
namespace Go.Proofs.Ytafjlklcffbbfaa
set_option linter.unusedSimpArgs false
set_option linter.unusedVariables false
open Go.RowKit
set_option maxRecDepth 100000 in
set_option maxHeartbeats 4000000 in
theorem spec_breaks0_any (s : ByteArray) (A : Option Addr) (c : Nat) (l : List O3) (i : Nat) (w : World) (hi : i < l.length) (hl : l.length ≤ 1000)
    (f0 : (s.toList == ([114, 101, 99, 111, 118, 101, 114, 97, 98, 108, 101] : List UInt8)) = true) (hR : RdO w w.heap.size A l) :
    Calls Try.prog 37 #[.string s, .slice A l.length c, .int .i64 i] w fun e w' => e = .returned (.tuple #[.bool (brkS 0 l i), .bool true]) ∧ Below w.heap.size w w' := by
  have HM := Lib.hid (show l.length ≤ maxLen by unfold maxLen; omega)
  have HR := Lib.hid hR
  have HD := Lib.hid (show brkS 0 l i = (l[i].kind == 2 && anyTo (p0S l i) i) by show ((atO l i).kind == 2 && anyTo (p0S l i) i) = _; rw [atO_eq hi])
  clear hR
  go_enter Try.func37, Try.ntmps37
  go_wp2_with fail
  go_loopw [8, 9] (fun v8 _ wr => ∃ k : Nat, k ≤ i ∧ v8 = .int .i64 k ∧ (l[i].kind == 2 && anyTo (p0S l i) k) = false ∧ Below w.heap.size w wr) (fun v8 _ _ => i - (intOf v8).toNat)
  case atStart => exact ⟨0, Nat.zero_le _, rfl, by simp [anyTo], Below.refl _ _⟩
  case round =>
    obtain ⟨k, hk, rfl, hall, hbw⟩ := hrel
    have HA := Lib.hid hall; clear hall
    have HB := Lib.hid hbw; clear hbw
    by_cases hlt : k < i
    · have hkl : k < l.length := by omega
      have HR2 := Lib.hid (HR.out.on HB.out)
      obtain ⟨b, off, rfl, hb, h0, h1, h2⟩ := HR2.out.at_ hkl
      obtain ⟨b', off', he, hb', g0, g1, g2⟩ := HR2.out.at_ hi
      injection he with he; injection he with he4 he5
      subst he4 he5
      cases e0 : (l[i].kind == 2)
      · have HD0 := Lib.hid (show brkS 0 l i = false by rw [HD.out, e0]; rfl)
        go_wp2_with fail
        go_ret2
        exact ⟨by rw [HD0.out]; rfl, HB.out⟩
      · rw [e0] at HA
        have HA' := Lib.hid (show anyTo (p0S l i) k = false from HA.out)
        have hp : p0S l i k = ((l[k].tx == l[i].tx) && ((l[k].kind == 0) && (decide (0 ≤ srcS l k) && (!(srcS l k == l[i].tx) && !comB l i (srcS l k))))) := by unfold p0S dirtyS; rw [atO_eq hi, atO_eq hkl]
        cases e1 : (l[k].tx == l[i].tx)
        · have HN := Lib.hid (show (true && anyTo (p0S l i) (k + 1)) = false from anyTo_on HA'.out (by rw [hp, e1]; rfl))
          clear hp
          go_wp2_with fail
          ((first | (with_reducible refine wp_region_from (by with_reducible assumption) follows (by kernel_rfl) ?_) | (refine wp_region_aft follows (by kernel_rfl) ?_)); (repeat (go_big_quiet_step (fail))); refine wpQuiet_nil ?_; intro _ hw'; obtain ⟨⟨w1, hb⟩, rfl⟩ := hw'; (try dsimp only); first | (replace hb := Below.via hb (by with_reducible assumption); (try clear hbc hbf hbz); obtain ⟨hbc, hbf, hbz⟩ := bcell hb) | (obtain ⟨hbc, hbf, hbz⟩ := bcell hb))
          go_wp2
          exact ⟨⟨k + 1, by omega, by go_num, HN.out, Below.trans HB.out (hb.mono HB.out.size)⟩, by simp [intOf]; omega⟩
        · cases e2 : (l[k].kind == 0)
          · have HN := Lib.hid (show (true && anyTo (p0S l i) (k + 1)) = false from anyTo_on HA'.out (by rw [hp, e1, e2]; rfl))
            clear hp
            go_wp2_with fail
            ((first | (with_reducible refine wp_region_from (by with_reducible assumption) follows (by kernel_rfl) ?_) | (refine wp_region_aft follows (by kernel_rfl) ?_)); (repeat (go_big_quiet_step (fail))); refine wpQuiet_nil ?_; intro _ hw'; obtain ⟨⟨w1, hb⟩, rfl⟩ := hw'; (try dsimp only); first | (replace hb := Below.via hb (by with_reducible assumption); (try clear hbc hbf hbz); obtain ⟨hbc, hbf, hbz⟩ := bcell hb) | (obtain ⟨hbc, hbf, hbz⟩ := bcell hb))
            go_wp2
            exact ⟨⟨k + 1, by omega, by go_num, HN.out, Below.trans HB.out (hb.mono HB.out.size)⟩, by simp [intOf]; omega⟩
          · by_cases h1 : 0 ≤ srcS l k
            · cases e3 : (srcS l k == l[i].tx)
              · have e3' := bne_t e3
                cases e4 : comB l i (srcS l k)
                · have HY := Lib.hid (show brkS 0 l i = true by rw [HD.out, e0]; exact anyTo_hit hlt (by rw [hp, e1, e2, e3, e4]; simp [h1]))
                  have E4 := Lib.hid e4
                  clear hp e3 e4
                  go_wp2_with fail
                  ((first | (with_reducible refine wp_region_from (by with_reducible assumption) follows (by kernel_rfl) ?_) | (refine wp_region_aft follows (by kernel_rfl) ?_)); (repeat (go_big_quiet_step (fail))); refine wpQuiet_nil ?_; intro _ hw'; obtain ⟨⟨w1, hb⟩, rfl⟩ := hw'; (try dsimp only); first | (replace hb := Below.via hb (by with_reducible assumption); (try clear hbc hbf hbz); obtain ⟨hbc, hbf, hbz⟩ := bcell hb) | (obtain ⟨hbc, hbf, hbz⟩ := bcell hb))
                  rename_i w3
                  have HB3 := Lib.hid (Below.trans HB.out (hb.mono HB.out.size))
                  clear hb hbc hbf hbz
                  go_wp2_with fail
                  refine (spec_source_any _ _ l k _ hkl HM.out (HR.out.on HB3.out)).mono ?_
                  rintro e w4 ⟨rfl, hb4⟩
                  have HB4 := Lib.hid (Below.trans HB3.out (hb4.mono HB3.out.size))
                  clear hb4
                  obtain ⟨b9, off9, he, hb9, k0, k1, k2⟩ := (HR.out.on HB4.out).at_ hi
                  injection he with he; injection he with he4 he5
                  subst he4 he5
                  clear h0 h2 g0 g2
                  go_wp2_with (go_at_call 60; refine (spec_committedAt_any _ _ l _ i _ (by omega) HM.out (HR.out.on HB4.out)).mono ?_; rintro e w5 ⟨rfl, rfl⟩; rw [E4.out])
                  go_ret2
                  exact ⟨by rw [HY.out]; rfl, HB4.out⟩
                · have HN := Lib.hid (show (true && anyTo (p0S l i) (k + 1)) = false from anyTo_on HA'.out (by rw [hp, e4]; simp))
                  have E4 := Lib.hid e4
                  clear hp e3 e4
                  go_wp2_with fail
                  ((first | (with_reducible refine wp_region_from (by with_reducible assumption) follows (by kernel_rfl) ?_) | (refine wp_region_aft follows (by kernel_rfl) ?_)); (repeat (go_big_quiet_step (fail))); refine wpQuiet_nil ?_; intro _ hw'; obtain ⟨⟨w1, hb⟩, rfl⟩ := hw'; (try dsimp only); first | (replace hb := Below.via hb (by with_reducible assumption); (try clear hbc hbf hbz); obtain ⟨hbc, hbf, hbz⟩ := bcell hb) | (obtain ⟨hbc, hbf, hbz⟩ := bcell hb))
                  rename_i w3
                  have HB3 := Lib.hid (Below.trans HB.out (hb.mono HB.out.size))
                  clear hb hbc hbf hbz
                  go_wp2_with fail
                  refine (spec_source_any _ _ l k _ hkl HM.out (HR.out.on HB3.out)).mono ?_
                  rintro e w4 ⟨rfl, hb4⟩
                  have HB4 := Lib.hid (Below.trans HB3.out (hb4.mono HB3.out.size))
                  clear hb4
                  obtain ⟨b9, off9, he, hb9, k0, k1, k2⟩ := (HR.out.on HB4.out).at_ hi
                  injection he with he; injection he with he4 he5
                  subst he4 he5
                  clear h0 h2 g0 g2
                  go_wp2_with (go_at_call 60; refine (spec_committedAt_any _ _ l _ i _ (by omega) HM.out (HR.out.on HB4.out)).mono ?_; rintro e w5 ⟨rfl, rfl⟩; rw [E4.out])
                  exact ⟨⟨k + 1, by omega, by go_num, HN.out, HB4.out⟩, by simp [intOf]; omega⟩
              · have e3' := bne_f e3
                have HN := Lib.hid (show (true && anyTo (p0S l i) (k + 1)) = false from anyTo_on HA'.out (by rw [hp, e3]; simp))
                clear hp e3
                go_wp2_with fail
                ((first | (with_reducible refine wp_region_from (by with_reducible assumption) follows (by kernel_rfl) ?_) | (refine wp_region_aft follows (by kernel_rfl) ?_)); (repeat (go_big_quiet_step (fail))); refine wpQuiet_nil ?_; intro _ hw'; obtain ⟨⟨w1, hb⟩, rfl⟩ := hw'; (try dsimp only); first | (replace hb := Below.via hb (by with_reducible assumption); (try clear hbc hbf hbz); obtain ⟨hbc, hbf, hbz⟩ := bcell hb) | (obtain ⟨hbc, hbf, hbz⟩ := bcell hb))
                rename_i w3
                have HB3 := Lib.hid (Below.trans HB.out (hb.mono HB.out.size))
                clear hb hbc hbf hbz
                go_wp2_with fail
                refine (spec_source_any _ _ l k _ hkl HM.out (HR.out.on HB3.out)).mono ?_
                rintro e w4 ⟨rfl, hb4⟩
                have HB4 := Lib.hid (Below.trans HB3.out (hb4.mono HB3.out.size))
                clear hb4
                obtain ⟨b9, off9, he, hb9, k0, k1, k2⟩ := (HR.out.on HB4.out).at_ hi
                injection he with he; injection he with he4 he5
                subst he4 he5
                clear h0 h2 g0 g2
                go_wp2_with fail
                exact ⟨⟨k + 1, by omega, by go_num, HN.out, HB4.out⟩, by simp [intOf]; omega⟩
            · have HN := Lib.hid (show (true && anyTo (p0S l i) (k + 1)) = false from anyTo_on HA'.out (by rw [hp]; simp [h1]))
              clear hp
              go_wp2_with fail
              ((first | (with_reducible refine wp_region_from (by with_reducible assumption) follows (by kernel_rfl) ?_) | (refine wp_region_aft follows (by kernel_rfl) ?_)); (repeat (go_big_quiet_step (fail))); refine wpQuiet_nil ?_; intro _ hw'; obtain ⟨⟨w1, hb⟩, rfl⟩ := hw'; (try dsimp only); first | (replace hb := Below.via hb (by with_reducible assumption); (try clear hbc hbf hbz); obtain ⟨hbc, hbf, hbz⟩ := bcell hb) | (obtain ⟨hbc, hbf, hbz⟩ := bcell hb))
              rename_i w3
              have HB3 := Lib.hid (Below.trans HB.out (hb.mono HB.out.size))
              clear hb hbc hbf hbz
              go_wp2_with fail
              refine (spec_source_any _ _ l k _ hkl HM.out (HR.out.on HB3.out)).mono ?_
              rintro e w4 ⟨rfl, hb4⟩
              have HB4 := Lib.hid (Below.trans HB3.out (hb4.mono HB3.out.size))
              clear hb4
              obtain ⟨b9, off9, he, hb9, k0, k1, k2⟩ := (HR.out.on HB4.out).at_ hi
              injection he with he; injection he with he4 he5
              subst he4 he5
              clear h0 h2 g0 g2
              go_wp2_with fail
              exact ⟨⟨k + 1, by omega, by go_num, HN.out, HB4.out⟩, by simp [intOf]; omega⟩
    · have hk' : k = i := by omega
      have HE := Lib.hid (show brkS 0 l i = false by have h := HA.out; rw [hk'] at h; rw [HD.out]; exact h)
      clear hk'
      go_wp2
      go_ret2
      exact ⟨by rw [HE.out]; rfl, HB.out⟩
set_option maxRecDepth 100000 in
set_option maxHeartbeats 4000000 in
theorem spec_breaks2_any (s : ByteArray) (A : Option Addr) (c : Nat) (l : List O3) (i : Nat) (w : World) (hi : i < l.length) (hl : l.length ≤ 1000)
    (f0 : (s.toList == ([114, 101, 99, 111, 118, 101, 114, 97, 98, 108, 101] : List UInt8)) = false)
    (f1 : (s.toList == ([99, 97, 115, 99, 97, 100, 101, 115] : List UInt8)) = false)
    (f2 : (s.toList == ([115, 116, 114, 105, 99, 116] : List UInt8)) = true)
    (f3 : (s.toList == ([114, 105, 103, 111, 114, 111, 117, 115] : List UInt8)) = false) (hR : RdO w w.heap.size A l) :
    Calls Try.prog 37 #[.string s, .slice A l.length c, .int .i64 i] w fun e w' => e = .returned (.tuple #[.bool (brkS 2 l i), .bool true]) ∧ Below w.heap.size w w' := by
  have HM := Lib.hid (show l.length ≤ maxLen by unfold maxLen; omega)
  have HR := Lib.hid hR
  have HD := Lib.hid (show brkS 2 l i = (l.take i).any (p23S false l i) from rfl)
  clear hR
  go_enter Try.func37, Try.ntmps37
  go_wp2_with fail
  go_loopw [11] (fun v11 wr => ∃ k : Nat, k ≤ i ∧ v11 = .int .i64 k ∧ (l.take k).any (p23S false l i) = false ∧ Below w.heap.size w wr) (fun v11 _ => i - (intOf v11).toNat)
  case atStart => exact ⟨0, Nat.zero_le _, rfl, rfl, Below.refl _ _⟩
  case round =>
    obtain ⟨k, hk, rfl, hall, hbw⟩ := hrel
    have HA := Lib.hid hall; clear hall
    have HB := Lib.hid hbw; clear hbw
    by_cases hlt : k < i
    · have hkl : k < l.length := by omega
      have HR2 := Lib.hid (HR.out.on HB.out)
      obtain ⟨b, off, rfl, hb, h0, h1, h2⟩ := HR2.out.at_ hkl
      obtain ⟨b', off', he, hb', g0, g1, g2⟩ := HR2.out.at_ hi
      injection he with he; injection he with he4 he5
      subst he4 he5
      have hp : p23S false l i l[k] = (conflS l[k] l[i] && (actB l i l[k].tx && (false || l[k].kind == 1))) := by unfold p23S; rw [atO_eq hi]
      cases e1 : conflS l[k] l[i]
      · have HN := Lib.hid (show (l.take (k + 1)).any (p23S false l i) = false by rw [any_upto _ hkl, HA.out, hp, e1]; rfl)
        have E1 := Lib.hid (show conflS ⟨l[k].tx, l[k].kind, l[k].item⟩ ⟨l[i].tx, l[i].kind, l[i].item⟩ = false from e1)
        clear hp e1
        go_wp2_with fail
        ((first | (with_reducible refine wp_region_from (by with_reducible assumption) follows (by kernel_rfl) ?_) | (refine wp_region_aft follows (by kernel_rfl) ?_)); (repeat (go_big_quiet_step (first | (go_at_call 61; exact aftb (spec_conflict_any _ _ _ _ _ _ _) (E1.out)) | (go_at_call 62; exact aftb (spec_activeAt_any _ _ l _ i _ (Nat.le_of_lt hi) HM.out (HR2.out.on (After.below _))) (E2.out))))); refine wpQuiet_nil ?_; intro _ hw'; obtain ⟨⟨w1, hb⟩, rfl⟩ := hw'; (try dsimp only); first | (replace hb := Below.via hb (by with_reducible assumption); (try clear hbc hbf hbz); obtain ⟨hbc, hbf, hbz⟩ := bcell hb) | (obtain ⟨hbc, hbf, hbz⟩ := bcell hb))
        go_wp2
        exact ⟨⟨k + 1, by omega, by go_num, HN.out, Below.trans HB.out (hb.mono HB.out.size)⟩, by simp [intOf]; omega⟩
      · have E1 := Lib.hid (show conflS ⟨l[k].tx, l[k].kind, l[k].item⟩ ⟨l[i].tx, l[i].kind, l[i].item⟩ = true from e1)
        cases e2 : actB l i l[k].tx
        · have HN := Lib.hid (show (l.take (k + 1)).any (p23S false l i) = false by rw [any_upto _ hkl, HA.out, hp, e2]; simp)
          have E2 := Lib.hid e2
          clear hp e1 e2
          go_wp2_with fail
          ((first | (with_reducible refine wp_region_from (by with_reducible assumption) follows (by kernel_rfl) ?_) | (refine wp_region_aft follows (by kernel_rfl) ?_)); (repeat (go_big_quiet_step (first | (go_at_call 61; exact aftb (spec_conflict_any _ _ _ _ _ _ _) (E1.out)) | (go_at_call 62; exact aftb (spec_activeAt_any _ _ l _ i _ (Nat.le_of_lt hi) HM.out (HR2.out.on (After.below _))) (E2.out))))); refine wpQuiet_nil ?_; intro _ hw'; obtain ⟨⟨w1, hb⟩, rfl⟩ := hw'; (try dsimp only); first | (replace hb := Below.via hb (by with_reducible assumption); (try clear hbc hbf hbz); obtain ⟨hbc, hbf, hbz⟩ := bcell hb) | (obtain ⟨hbc, hbf, hbz⟩ := bcell hb))
          go_wp2
          exact ⟨⟨k + 1, by omega, by go_num, HN.out, Below.trans HB.out (hb.mono HB.out.size)⟩, by simp [intOf]; omega⟩
        · have E2 := Lib.hid e2
          cases e3 : (l[k].kind == 1)
          · have HN := Lib.hid (show (l.take (k + 1)).any (p23S false l i) = false by rw [any_upto _ hkl, HA.out, hp, e3]; simp)
            clear hp e1 e2
            go_wp2_with fail
            ((first | (with_reducible refine wp_region_from (by with_reducible assumption) follows (by kernel_rfl) ?_) | (refine wp_region_aft follows (by kernel_rfl) ?_)); (repeat (go_big_quiet_step (first | (go_at_call 61; exact aftb (spec_conflict_any _ _ _ _ _ _ _) (E1.out)) | (go_at_call 62; exact aftb (spec_activeAt_any _ _ l _ i _ (Nat.le_of_lt hi) HM.out (HR2.out.on (After.below _))) (E2.out))))); refine wpQuiet_nil ?_; intro _ hw'; obtain ⟨⟨w1, hb⟩, rfl⟩ := hw'; (try dsimp only); first | (replace hb := Below.via hb (by with_reducible assumption); (try clear hbc hbf hbz); obtain ⟨hbc, hbf, hbz⟩ := bcell hb) | (obtain ⟨hbc, hbf, hbz⟩ := bcell hb))
            go_wp2
            exact ⟨⟨k + 1, by omega, by go_num, HN.out, Below.trans HB.out (hb.mono HB.out.size)⟩, by simp [intOf]; omega⟩
          · have HY := Lib.hid (show brkS 2 l i = true from any_at _ hkl hlt (by rw [hp, e1, e2, e3]; rfl))
            clear hp e1 e2
            go_wp2_with fail
            ((first | (with_reducible refine wp_region_from (by with_reducible assumption) follows (by kernel_rfl) ?_) | (refine wp_region_aft follows (by kernel_rfl) ?_)); (repeat (go_big_quiet_step (first | (go_at_call 61; exact aftb (spec_conflict_any _ _ _ _ _ _ _) (E1.out)) | (go_at_call 62; exact aftb (spec_activeAt_any _ _ l _ i _ (Nat.le_of_lt hi) HM.out (HR2.out.on (After.below _))) (E2.out))))); refine wpQuiet_nil ?_; intro _ hw'; obtain ⟨⟨w1, hb⟩, rfl⟩ := hw'; (try dsimp only); first | (replace hb := Below.via hb (by with_reducible assumption); (try clear hbc hbf hbz); obtain ⟨hbc, hbf, hbz⟩ := bcell hb) | (obtain ⟨hbc, hbf, hbz⟩ := bcell hb))
            go_wp2
            go_ret2
            exact ⟨by rw [HY.out]; rfl, Below.trans HB.out (hb.mono HB.out.size)⟩
    · have hk' : k = i := by omega
      have HE := Lib.hid (show brkS 2 l i = false by have h := HA.out; rw [hk'] at h; exact h)
      clear hk'
      go_wp2
      go_ret2
      exact ⟨by rw [HE.out]; rfl, HB.out⟩
set_option maxRecDepth 100000 in
set_option maxHeartbeats 4000000 in
theorem spec_breaks3_any (s : ByteArray) (A : Option Addr) (c : Nat) (l : List O3) (i : Nat) (w : World) (hi : i < l.length) (hl : l.length ≤ 1000)
    (f0 : (s.toList == ([114, 101, 99, 111, 118, 101, 114, 97, 98, 108, 101] : List UInt8)) = false)
    (f1 : (s.toList == ([99, 97, 115, 99, 97, 100, 101, 115] : List UInt8)) = false)
    (f2 : (s.toList == ([115, 116, 114, 105, 99, 116] : List UInt8)) = false)
    (f3 : (s.toList == ([114, 105, 103, 111, 114, 111, 117, 115] : List UInt8)) = true) (hR : RdO w w.heap.size A l) :
    Calls Try.prog 37 #[.string s, .slice A l.length c, .int .i64 i] w fun e w' => e = .returned (.tuple #[.bool (brkS 3 l i), .bool true]) ∧ Below w.heap.size w w' := by
  have HM := Lib.hid (show l.length ≤ maxLen by unfold maxLen; omega)
  have HR := Lib.hid hR
  have HD := Lib.hid (show brkS 3 l i = (l.take i).any (p23S true l i) from rfl)
  clear hR
  go_enter Try.func37, Try.ntmps37
  go_wp2_with fail
  go_loopw [11] (fun v11 wr => ∃ k : Nat, k ≤ i ∧ v11 = .int .i64 k ∧ (l.take k).any (p23S true l i) = false ∧ Below w.heap.size w wr) (fun v11 _ => i - (intOf v11).toNat)
  case atStart => exact ⟨0, Nat.zero_le _, rfl, rfl, Below.refl _ _⟩
  case round =>
    obtain ⟨k, hk, rfl, hall, hbw⟩ := hrel
    have HA := Lib.hid hall; clear hall
    have HB := Lib.hid hbw; clear hbw
    by_cases hlt : k < i
    · have hkl : k < l.length := by omega
      have HR2 := Lib.hid (HR.out.on HB.out)
      obtain ⟨b, off, rfl, hb, h0, h1, h2⟩ := HR2.out.at_ hkl
      obtain ⟨b', off', he, hb', g0, g1, g2⟩ := HR2.out.at_ hi
      injection he with he; injection he with he4 he5
      subst he4 he5
      have hp : p23S true l i l[k] = (conflS l[k] l[i] && (actB l i l[k].tx && (true || l[k].kind == 1))) := by unfold p23S; rw [atO_eq hi]
      cases e1 : conflS l[k] l[i]
      · have HN := Lib.hid (show (l.take (k + 1)).any (p23S true l i) = false by rw [any_upto _ hkl, HA.out, hp, e1]; rfl)
        have E1 := Lib.hid (show conflS ⟨l[k].tx, l[k].kind, l[k].item⟩ ⟨l[i].tx, l[i].kind, l[i].item⟩ = false from e1)
        clear hp e1
        go_wp2_with fail
        ((first | (with_reducible refine wp_region_from (by with_reducible assumption) follows (by kernel_rfl) ?_) | (refine wp_region_aft follows (by kernel_rfl) ?_)); (repeat (go_big_quiet_step (first | (go_at_call 61; exact aftb (spec_conflict_any _ _ _ _ _ _ _) (E1.out)) | (go_at_call 62; exact aftb (spec_activeAt_any _ _ l _ i _ (Nat.le_of_lt hi) HM.out (HR2.out.on (After.below _))) (E2.out))))); refine wpQuiet_nil ?_; intro _ hw'; obtain ⟨⟨w1, hb⟩, rfl⟩ := hw'; (try dsimp only); first | (replace hb := Below.via hb (by with_reducible assumption); (try clear hbc hbf hbz); obtain ⟨hbc, hbf, hbz⟩ := bcell hb) | (obtain ⟨hbc, hbf, hbz⟩ := bcell hb))
        go_wp2
        exact ⟨⟨k + 1, by omega, by go_num, HN.out, Below.trans HB.out (hb.mono HB.out.size)⟩, by simp [intOf]; omega⟩
      · have E1 := Lib.hid (show conflS ⟨l[k].tx, l[k].kind, l[k].item⟩ ⟨l[i].tx, l[i].kind, l[i].item⟩ = true from e1)
        cases e2 : actB l i l[k].tx
        · have HN := Lib.hid (show (l.take (k + 1)).any (p23S true l i) = false by rw [any_upto _ hkl, HA.out, hp, e2]; simp)
          have E2 := Lib.hid e2
          clear hp e1 e2
          go_wp2_with fail
          ((first | (with_reducible refine wp_region_from (by with_reducible assumption) follows (by kernel_rfl) ?_) | (refine wp_region_aft follows (by kernel_rfl) ?_)); (repeat (go_big_quiet_step (first | (go_at_call 61; exact aftb (spec_conflict_any _ _ _ _ _ _ _) (E1.out)) | (go_at_call 62; exact aftb (spec_activeAt_any _ _ l _ i _ (Nat.le_of_lt hi) HM.out (HR2.out.on (After.below _))) (E2.out))))); refine wpQuiet_nil ?_; intro _ hw'; obtain ⟨⟨w1, hb⟩, rfl⟩ := hw'; (try dsimp only); first | (replace hb := Below.via hb (by with_reducible assumption); (try clear hbc hbf hbz); obtain ⟨hbc, hbf, hbz⟩ := bcell hb) | (obtain ⟨hbc, hbf, hbz⟩ := bcell hb))
          go_wp2
          exact ⟨⟨k + 1, by omega, by go_num, HN.out, Below.trans HB.out (hb.mono HB.out.size)⟩, by simp [intOf]; omega⟩
        · have E2 := Lib.hid e2
          have HY := Lib.hid (show brkS 3 l i = true from any_at _ hkl hlt (by rw [hp, e1, e2]; rfl))
          clear hp e1 e2
          go_wp2_with fail
          ((first | (with_reducible refine wp_region_from (by with_reducible assumption) follows (by kernel_rfl) ?_) | (refine wp_region_aft follows (by kernel_rfl) ?_)); (repeat (go_big_quiet_step (first | (go_at_call 61; exact aftb (spec_conflict_any _ _ _ _ _ _ _) (E1.out)) | (go_at_call 62; exact aftb (spec_activeAt_any _ _ l _ i _ (Nat.le_of_lt hi) HM.out (HR2.out.on (After.below _))) (E2.out))))); refine wpQuiet_nil ?_; intro _ hw'; obtain ⟨⟨w1, hb⟩, rfl⟩ := hw'; (try dsimp only); first | (replace hb := Below.via hb (by with_reducible assumption); (try clear hbc hbf hbz); obtain ⟨hbc, hbf, hbz⟩ := bcell hb) | (obtain ⟨hbc, hbf, hbz⟩ := bcell hb))
          go_wp2
          go_ret2
          exact ⟨by rw [HY.out]; rfl, Below.trans HB.out (hb.mono HB.out.size)⟩
    · have hk' : k = i := by omega
      have HE := Lib.hid (show brkS 3 l i = false by have h := HA.out; rw [hk'] at h; exact h)
      clear hk'
      go_wp2
      go_ret2
      exact ⟨by rw [HE.out]; rfl, HB.out⟩
end Go.Proofs.Ytafjlklcffbbfaa
