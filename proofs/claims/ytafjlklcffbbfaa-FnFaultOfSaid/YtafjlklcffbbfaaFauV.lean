/- The first operation that breaks a rule: the reference's rules. -/
import Derived.Test.YtafjlklcffbbfaaFauS
namespace Go.Proofs.Ytafjlklcffbbfaa
set_option linter.unusedSimpArgs false
set_option linter.unusedVariables false
open Go.RowKit
set_option maxRecDepth 100000 in
set_option maxHeartbeats 4000000 in
theorem spec_breaks4_any (s : ByteArray) (A : Option Addr) (c : Nat) (l : List O3) (i : Nat) (w : World) (hi : i < l.length) (hl : l.length ≤ 1000)
    (f0 : (s.toList == ([114, 101, 99, 111, 118, 101, 114, 97, 98, 108, 101] : List UInt8)) = false)
    (f1 : (s.toList == ([99, 97, 115, 99, 97, 100, 101, 115] : List UInt8)) = false)
    (f2 : (s.toList == ([115, 116, 114, 105, 99, 116] : List UInt8)) = false)
    (f3 : (s.toList == ([114, 105, 103, 111, 114, 111, 117, 115] : List UInt8)) = false)
    (f4 : (s.toList == ([99, 111, 109, 109, 105, 116, 115] : List UInt8)) = true) (hR : RdO w w.heap.size A l) :
    Calls Try.prog 37 #[.string s, .slice A l.length c, .int .i64 i] w fun e w' => e = .returned (.tuple #[.bool (brkS 4 l i), .bool true]) ∧ Below w.heap.size w w' := by
  have HM := Lib.hid (show l.length ≤ maxLen by unfold maxLen; omega)
  have HR := Lib.hid hR
  have HD := Lib.hid (show brkS 4 l i = (l[i].kind == 2 && anyTo (p4S l i) i) by show ((atO l i).kind == 2 && anyTo (p4S l i) i) = _; rw [atO_eq hi])
  clear hR
  go_enter Try.func37, Try.ntmps37
  go_wp2_with fail
  go_loopw [12, 13] (fun v12 _ wr => ∃ k : Nat, k ≤ i ∧ v12 = .int .i64 k ∧ (l[i].kind == 2 && anyTo (p4S l i) k) = false ∧ Below w.heap.size w wr) (fun v12 _ _ => i - (intOf v12).toNat)
  case atStart => exact ⟨0, Nat.zero_le _, rfl, by simp [anyTo], Below.refl _ _⟩
  case round =>
    obtain ⟨k, hk, rfl, hall, hbw⟩ := hrel
    have HA := Lib.hid hall; clear hall
    have HB := Lib.hid hbw; clear hbw
    by_cases hlt : k < i
    · have hlt' : (k : Int) < (i : Int) := by omega
      have hkl : k < l.length := by omega
      have HR2 := Lib.hid (HR.out.on HB.out)
      obtain ⟨b, off, rfl, hb, g0, g1, g2⟩ := HR2.out.at_ hi
      cases e0 : (l[i].kind == 2)
      · have HD0 := Lib.hid (show brkS 4 l i = false by rw [HD.out, e0]; rfl)
        go_wp2_with fail
        go_ret2
        exact ⟨by rw [HD0.out]; rfl, HB.out⟩
      · rw [e0] at HA
        have HA' := Lib.hid (show anyTo (p4S l i) k = false from HA.out)
        generalize hnn : l.length - (k + 1) = n
        go_wp2_with fail
        obtain ⟨wo, hwo⟩ : ∃ wo : World, wo = wr := ⟨_, rfl⟩
        subst hwo
        clear g0 g1 g2
        go_loopw [13] (fun v13 wr => ∃ m : Nat, m ≤ n ∧ v13 = .int .i64 ((k + 1 + m : Nat) : Int) ∧ anyTo (fun m => q4S l i k (k + 1 + m)) m = false ∧ Below w.heap.size w wr) (fun v13 _ => l.length - (intOf v13).toNat)
        case atStart => exact ⟨0, Nat.zero_le _, by go_num, rfl, HB.out⟩
        case round =>
          obtain ⟨m, hm, rfl, hall, hbw⟩ := hrel
          have HA2 := Lib.hid hall; clear hall
          have HI := Lib.hid hbw; clear hbw
          by_cases hlm : m < n
          · have hjl : k + 1 + m < l.length := by omega
            obtain ⟨j, hj⟩ : ∃ j, j = k + 1 + m := ⟨_, rfl⟩
            have HNX : ∀ b, q4S l i k j = b → b = false → Hid (anyTo (fun m => q4S l i k (k + 1 + m)) (m + 1) = false) := fun b h1 h2 => Lib.hid (anyTo_on (p := fun m => q4S l i k (k + 1 + m)) HA2.out (by rw [← hj, h1, h2]))
            have HYX : q4S l i k j = true → Hid (brkS 4 l i = true) := fun h => Lib.hid (by
              rw [HD.out, e0]
              refine anyTo_hit hlt ?_
              unfold p4S
              exact anyTo_hit (show m < l.length - (k + 1) by omega) (by rw [← hj]; exact h))
            have HNX := Lib.hid HNX
            have HYX := Lib.hid HYX
            have hme : ((k + 1 + m : Nat) : Int) = (j : Int) := by rw [hj]
            have HME := Lib.hid (show (k + 1 + (m + 1) : Nat) = j + 1 by omega)
            have hjm : l.length - (j + 1) < l.length - j := by omega
            rw [hme]
            rw [← hj] at hjl
            have hmn : m + 1 ≤ n := by omega
            clear hj hme hlm hm
            have HR3 := Lib.hid (HR.out.on HI.out)
            obtain ⟨b', off', he, hb', g0, g1, g2⟩ := HR3.out.at_ hi
            injection he with he; injection he with he4 he5
            subst he4 he5
            obtain ⟨b', off', he, hb', h0, h1, h2⟩ := HR3.out.at_ hkl
            injection he with he; injection he with he4 he5
            subst he4 he5
            obtain ⟨b', off', he, hb', k0, k1, k2⟩ := HR3.out.at_ hjl
            injection he with he; injection he with he4 he5
            subst he4 he5
            have hq : q4S l i k j = ((l[k].tx == l[i].tx) && (conflS l[k] l[j] && comB l i l[j].tx)) := by unfold q4S; rw [atO_eq hi, atO_eq hkl, atO_eq hjl]
            cases e1 : (l[k].tx == l[i].tx)
            · have HN := HNX.out _ (by rw [hq, e1]; rfl) rfl
              clear hq
              go_wp2_with fail
              ((first | (with_reducible refine wp_region_from (by with_reducible assumption) follows (by kernel_rfl) ?_) | (refine wp_region_aft follows (by kernel_rfl) ?_)); (repeat (go_big_quiet_step (first | (go_at_call 61; exact aftb (spec_conflict_any _ _ _ _ _ _ _) (E1.out)) | (go_at_call 60; exact aftb_same (spec_committedAt_any _ _ l _ i _ (Nat.le_of_lt hi) HM.out (HR3.out.on (After.below _))) (E2.out))))); refine wpQuiet_nil ?_; intro _ hw'; obtain ⟨⟨w1, hb⟩, rfl⟩ := hw'; (try dsimp only); first | (replace hb := Below.via hb (by with_reducible assumption); (try clear hbc hbf hbz); obtain ⟨hbc, hbf, hbz⟩ := bcell hb) | (obtain ⟨hbc, hbf, hbz⟩ := bcell hb))
              go_wp2
              exact ⟨⟨m + 1, hmn, by rw [HME.out]; go_num, HN.out, Below.trans HI.out (hb.mono HI.out.size)⟩, by simp [intOf]; omega⟩
            · cases e2 : conflS l[k] l[j]
              · have HN := HNX.out _ (by rw [hq, e1, e2]; rfl) rfl
                have E1 := Lib.hid (show conflS ⟨l[k].tx, l[k].kind, l[k].item⟩ ⟨l[j].tx, l[j].kind, l[j].item⟩ = false from e2)
                clear hq e2
                go_wp2_with fail
                ((first | (with_reducible refine wp_region_from (by with_reducible assumption) follows (by kernel_rfl) ?_) | (refine wp_region_aft follows (by kernel_rfl) ?_)); (repeat (go_big_quiet_step (first | (go_at_call 61; exact aftb (spec_conflict_any _ _ _ _ _ _ _) (E1.out)) | (go_at_call 60; exact aftb_same (spec_committedAt_any _ _ l _ i _ (Nat.le_of_lt hi) HM.out (HR3.out.on (After.below _))) (E2.out))))); refine wpQuiet_nil ?_; intro _ hw'; obtain ⟨⟨w1, hb⟩, rfl⟩ := hw'; (try dsimp only); first | (replace hb := Below.via hb (by with_reducible assumption); (try clear hbc hbf hbz); obtain ⟨hbc, hbf, hbz⟩ := bcell hb) | (obtain ⟨hbc, hbf, hbz⟩ := bcell hb))
                go_wp2
                exact ⟨⟨m + 1, hmn, by rw [HME.out]; go_num, HN.out, Below.trans HI.out (hb.mono HI.out.size)⟩, by simp [intOf]; omega⟩
              · have E1 := Lib.hid (show conflS ⟨l[k].tx, l[k].kind, l[k].item⟩ ⟨l[j].tx, l[j].kind, l[j].item⟩ = true from e2)
                cases e3 : comB l i l[j].tx
                · have HN := HNX.out _ (by rw [hq, e1, e2, e3]; rfl) rfl
                  have E2 := Lib.hid e3
                  clear hq e2 e3
                  go_wp2_with fail
                  ((first | (with_reducible refine wp_region_from (by with_reducible assumption) follows (by kernel_rfl) ?_) | (refine wp_region_aft follows (by kernel_rfl) ?_)); (repeat (go_big_quiet_step (first | (go_at_call 61; exact aftb (spec_conflict_any _ _ _ _ _ _ _) (E1.out)) | (go_at_call 60; exact aftb_same (spec_committedAt_any _ _ l _ i _ (Nat.le_of_lt hi) HM.out (HR3.out.on (After.below _))) (E2.out))))); refine wpQuiet_nil ?_; intro _ hw'; obtain ⟨⟨w1, hb⟩, rfl⟩ := hw'; (try dsimp only); first | (replace hb := Below.via hb (by with_reducible assumption); (try clear hbc hbf hbz); obtain ⟨hbc, hbf, hbz⟩ := bcell hb) | (obtain ⟨hbc, hbf, hbz⟩ := bcell hb))
                  go_wp2
                  exact ⟨⟨m + 1, hmn, by rw [HME.out]; go_num, HN.out, Below.trans HI.out (hb.mono HI.out.size)⟩, by simp [intOf]; omega⟩
                · have HY := HYX.out (by rw [hq, e1, e2, e3]; rfl)
                  have E2 := Lib.hid e3
                  clear hq e2 e3
                  go_wp2_with fail
                  ((first | (with_reducible refine wp_region_from (by with_reducible assumption) follows (by kernel_rfl) ?_) | (refine wp_region_aft follows (by kernel_rfl) ?_)); (repeat (go_big_quiet_step (first | (go_at_call 61; exact aftb (spec_conflict_any _ _ _ _ _ _ _) (E1.out)) | (go_at_call 60; exact aftb_same (spec_committedAt_any _ _ l _ i _ (Nat.le_of_lt hi) HM.out (HR3.out.on (After.below _))) (E2.out))))); refine wpQuiet_nil ?_; intro _ hw'; obtain ⟨⟨w1, hb⟩, rfl⟩ := hw'; (try dsimp only); first | (replace hb := Below.via hb (by with_reducible assumption); (try clear hbc hbf hbz); obtain ⟨hbc, hbf, hbz⟩ := bcell hb) | (obtain ⟨hbc, hbf, hbz⟩ := bcell hb))
                  go_wp2
                  go_ret2
                  exact ⟨by rw [HY.out]; rfl, Below.trans HI.out (hb.mono HI.out.size)⟩
          · have hm' : m = n := by omega
            have HNN := Lib.hid (show (true && anyTo (p4S l i) (k + 1)) = false from anyTo_on HA'.out (by unfold p4S; rw [hnn, ← hm']; exact HA2.out))
            have hme : ¬ ((k + 1 + m : Nat) : Int) < (l.length : Int) := by omega
            clear hm'
            go_wp2
            exact ⟨⟨k + 1, by omega, by go_num, HNN.out, HI.out⟩, by simp [intOf]; omega⟩
    · have hk' : k = i := by omega
      have HE := Lib.hid (show brkS 4 l i = false by have h := HA.out; rw [hk'] at h; rw [HD.out]; exact h)
      clear hk'
      go_wp2
      go_ret2
      exact ⟨by rw [HE.out]; rfl, HB.out⟩
end Go.Proofs.Ytafjlklcffbbfaa
