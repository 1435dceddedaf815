/- The two operations that the law FnDoConflict makes. -/
import Derived.Test.YtlcaadjlghbcpaaDraw
namespace Go.Proofs.Ytlcaadjlghbcpaa
set_option linter.unusedSimpArgs false
set_option linter.unusedVariables false
open Go.RowKit

theorem Below.gr {a W w1 : World} {g : Nat} (h : Below a.heap.size a W) (hg : W.grownBy w1 (some g)) (hB : a.heap.size ≤ g) : Below a.heap.size a w1 :=
  h.grown hg h.size (fun k hk => by simp at hk; omega)
theorem Bx3.dr {w : World} {b : Nat} {E : TypeId} {x y z : Int} (h : Bx3 w b E x y z) : Bx3 w.drew b E x y z := h
set_option maxHeartbeats 2000000 in
theorem DrawDoConflict_any (A : Option Addr) (c n : Nat) (w : World) (hc : n ≤ c) (hl : n ≤ maxLen) (hR : RdB w w.heap.size A n) :
    Calls Try.prog 15 #[.slice A n c] w fun e w' => (∃ a b c a' b' c' : Int, e = .returned (.tuple #[.agg #[.int .i64 a, .int .i64 b, .int .i64 c], .agg #[.int .i64 a', .int .i64 b', .int .i64 c']])) ∧ Below w.heap.size w w' := by
  have R0 := Lib.hid ((Bx3.made w 24 0 0 0).al (.cells #[.int .i64 0, .int .i64 0, .int .i64 0] 24))
  have S0 := Lib.hid (Bx3.made (w.alloc (.cells #[.int .i64 0, .int .i64 0, .int .i64 0] 24)) 24 0 0 0)
  have hR2 : RdB ((w.alloc (.cells #[.int .i64 0, .int .i64 0, .int .i64 0] 24)).alloc (.cells #[.int .i64 0, .int .i64 0, .int .i64 0] 24)) ((w.alloc (.cells #[.int .i64 0, .int .i64 0, .int .i64 0] 24)).alloc (.cells #[.int .i64 0, .int .i64 0, .int .i64 0] 24)).heap.size A n := (hR.below (Below.al (Below.al (Below.refl _ _) _) _) (Nat.le_refl _)).more (by simp; omega)
  go_enter Try.func15, Try.ntmps15
  go_wp2_with fail
  refine (newReader_any A c n _ hc hl hR2).mono ?_
  rintro e w1 ⟨⟨rfl, hr1⟩, hb1⟩
  obtain ⟨g, hg⟩ : ∃ g, g = w.heap.size + 2 := ⟨_, rfl⟩
  obtain ⟨s, hs⟩ : ∃ s, s = w.heap.size + 1 := ⟨_, rfl⟩
  have hgz : ((w.alloc (.cells #[.int .i64 0, .int .i64 0, .int .i64 0] 24)).alloc (.cells #[.int .i64 0, .int .i64 0, .int .i64 0] 24)).heap.size = g := by simp; omega
  have hsz : (w.alloc (.cells #[.int .i64 0, .int .i64 0, .int .i64 0] 24)).heap.size = s := by simp; omega
  rw [hgz] at hr1
  have R1 := Lib.hid (R0.out.be hb1)
  have S1 := Lib.hid (show Bx3 w1 s 24 0 0 0 by rw [← hsz]; exact S0.out.be hb1)
  have W1 := Lib.hid (show Below w.heap.size w w1 by (repeat' (first | (with_reducible exact Below.refl _ _) | (with_reducible assumption) | (with_reducible refine Below.al ?_ _) | (with_reducible refine Below.drew ?_) | (with_reducible refine Below.drN ?_ _) | (with_reducible refine Below.via (by with_reducible assumption) ?_) | (with_reducible refine Below.setc ?_ ?_ _) | (with_reducible exact Nat.le_refl _) | (simp; done) | (simp; omega))))
  clear hb1 R0 S0 hR2 hgz hsz
  have ne0 : w.heap.size ≠ g := by omega
  have ne1 : s ≠ g := by omega
  have ne01 : w.heap.size ≠ s := by omega
  have ne10 : s ≠ w.heap.size := by omega
  have hgw : w.heap.size ≤ g := by omega
  have hsw : w.heap.size ≤ s := by omega
  go_wp2_with fail
  rw [← hg, ← hs]
  clear hg hs
  refine (anOp_any g 0 _ (by omega) hr1).mono ?_
  rintro e w2 ⟨⟨a, b, c1, rfl⟩, ⟨P2, hP2, hr2⟩, hg2⟩
  have R2 := Lib.hid (R1.out.gr hg2 ne0)
  have S2 := Lib.hid (S1.out.gr hg2 ne1)
  have W2 := Lib.hid (Below.gr W1.out hg2 hgw)
  clear R1 S1 W1 hg2 hr1
  have l4 := S2.out.at_.1
  have l5 := R2.out.at_.1
  have B2 := Lib.hid (Bx3.made w2 24 a b c1)
  have ne2 : w2.heap.size ≠ g := by have := hr2.lt; omega
  go_wp2_with fail
  refine (anOp_any g P2 _ (by omega) (hr2.al _)).mono ?_
  rintro e w3 ⟨⟨a', b', c1', rfl⟩, ⟨P3, hP3, hr3⟩, hg3⟩
  have R3 := Lib.hid ((R2.out.al _).gr hg3 ne0)
  have S3 := Lib.hid ((S2.out.al _).gr hg3 ne1)
  have B3 := Lib.hid (B2.out.gr hg3 ne2)
  have W3 := Lib.hid (Below.gr (Below.al W2.out _) hg3 hgw)
  clear R2 S2 B2 W2 hg3 hr2
  have C3 := Lib.hid (Bx3.made w3 24 a' b' c1')
  have ne3 : w3.heap.size ≠ g := by have := hr3.lt; omega
  go_wp2_with fail
  refine (pick_any g P3 2 _ (by omega) (by omega) (hr3.al _)).mono ?_
  rintro e w4 ⟨⟨x, rfl, _, _⟩, hr4, hg4⟩
  have R4 := Lib.hid ((R3.out.al _).gr hg4 ne0)
  have S4 := Lib.hid ((S3.out.al _).gr hg4 ne1)
  have B4 := Lib.hid ((B3.out.al _).gr hg4 ne2)
  have C4 := Lib.hid (C3.out.gr hg4 ne3)
  have W4 := Lib.hid (Below.gr (Below.al W3.out _) hg4 hgw)
  have l1 := S3.out.at_.1
  have l2 := B3.out.at_.1
  clear R3 S3 B3 C3 W3 hg4 hr3 hr4
  have l3 := W4.out.size
  obtain ⟨a0, a1, a2, a3, a4, a5, a6⟩ := R4.out.at_
  obtain ⟨b0, b1, b2, b3, b4, b5, b6⟩ := S4.out.at_
  obtain ⟨f0, f1, f2, f3, f4, f5, f6⟩ := B4.out.at_
  obtain ⟨d0, d1, d2, d3, d4, d5, d6⟩ := C4.out.at_
  have n1 : w2.heap.size ≠ w.heap.size := by omega
  have n2 : w2.heap.size ≠ s := by omega
  have n3 : w3.heap.size ≠ w.heap.size := by omega
  have n4 : w3.heap.size ≠ s := by omega
  have n5 : w2.heap.size ≠ w3.heap.size := by omega
  have n6 : w3.heap.size ≠ w2.heap.size := by omega
  have n7 : s ≠ w2.heap.size := by omega
  have n8 : s ≠ w3.heap.size := by omega
  have n9 : w.heap.size ≠ w2.heap.size := by omega
  have n10 : w.heap.size ≠ w3.heap.size := by omega
  by_cases hx : x = 0
  · subst hx
    have c3z : (w4.setCell ⟨w3.heap.size, 2, none⟩ (.int .i64 c1)).heap.size = w4.heap.size := by simp
    have C5 := Lib.hid (C4.out.set2 c1)
    have B5 := Lib.hid (B4.out.far ⟨w3.heap.size, 2, none⟩ (.int .i64 c1) (by simp; omega))
    have R5 := Lib.hid (R4.out.far ⟨w3.heap.size, 2, none⟩ (.int .i64 c1) (by simp; omega))
    have S5 := Lib.hid (S4.out.far ⟨w3.heap.size, 2, none⟩ (.int .i64 c1) (by simp; omega))
    go_wp2_with fail
    go_region
    all_goals go_wp2
    have HS := ((S5.out.far ⟨w.heap.size, 0, none⟩ (.int .i64 a) ne10).far ⟨w.heap.size, 1, none⟩ (.int .i64 b) ne10).far ⟨w.heap.size, 2, none⟩ (.int .i64 c1) ne10
    have e0 := (R5.out.set0 a).at_.2.1
    have e1 := ((R5.out.set0 a).set1 b).at_.2.2.1
    have e2 := (((R5.out.set0 a).set1 b).set2 c1).at_.2.2.2.1
    have k0 := (HS.set0 a').at_.2.1
    have k1 := ((HS.set0 a').set1 b').at_.2.2.1
    have k2 := (((HS.set0 a').set1 b').set2 c1).at_.2.2.2.1
    clear HS
    refine bodyPost_ret (by simp [results, Try.results15, go_sem, e0, e1, e2, k0, k1, k2, ne01, ne10]; try rfl) rfl ?_
    exact ⟨⟨_, _, _, _, _, _, rfl⟩, by have h := W4.out; (repeat' (first | (with_reducible exact Below.refl _ _) | (with_reducible assumption) | (with_reducible refine Below.al ?_ _) | (with_reducible refine Below.drew ?_) | (with_reducible refine Below.drN ?_ _) | (with_reducible refine Below.via (by with_reducible assumption) ?_) | (with_reducible refine Below.setc ?_ ?_ _) | (with_reducible exact Nat.le_refl _) | (simp; done) | (simp; omega)))⟩
  · go_wp2_with fail
    go_region
    all_goals go_wp2
    have HS := ((S4.out.far ⟨w.heap.size, 0, none⟩ (.int .i64 a) ne10).far ⟨w.heap.size, 1, none⟩ (.int .i64 b) ne10).far ⟨w.heap.size, 2, none⟩ (.int .i64 c1) ne10
    have e0 := (R4.out.set0 a).at_.2.1
    have e1 := ((R4.out.set0 a).set1 b).at_.2.2.1
    have e2 := (((R4.out.set0 a).set1 b).set2 c1).at_.2.2.2.1
    have k0 := (HS.set0 a').at_.2.1
    have k1 := ((HS.set0 a').set1 b').at_.2.2.1
    have k2 := (((HS.set0 a').set1 b').set2 c1').at_.2.2.2.1
    clear HS
    refine bodyPost_ret (by simp [results, Try.results15, go_sem, e0, e1, e2, k0, k1, k2, ne01, ne10]; try rfl) rfl ?_
    exact ⟨⟨_, _, _, _, _, _, rfl⟩, by have h := W4.out; (repeat' (first | (with_reducible exact Below.refl _ _) | (with_reducible assumption) | (with_reducible refine Below.al ?_ _) | (with_reducible refine Below.drew ?_) | (with_reducible refine Below.drN ?_ _) | (with_reducible refine Below.via (by with_reducible assumption) ?_) | (with_reducible refine Below.setc ?_ ?_ _) | (with_reducible exact Nat.le_refl _) | (simp; done) | (simp; omega)))⟩
end Go.Proofs.Ytlcaadjlghbcpaa
