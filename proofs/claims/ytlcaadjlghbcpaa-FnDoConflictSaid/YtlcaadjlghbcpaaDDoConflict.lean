/- The law FnDoConflict answers true: DoConflict is the same both ways, no operation conflicts with itself, and what conflicts has one item. No condition. -/
import Derived.Test.YtlcaadjlghbcpaaRows
import Derived.Test.YtlcaadjlghbcpaaConf
import Derived.Test.YtlcaadjlghbcpaaDrC
namespace Go.Proofs.Ytlcaadjlghbcpaa.ddoConflict
set_option linter.unusedSimpArgs false
set_option linter.unusedVariables false
open Go.ChangeShapes Go.WideShapes Go.ChangeAt Go.RowKit

theorem dc_comm (x y : O3) : dcB y x = dcB x y := by
  unfold dcB
  rw [confl_comm y x]
  cases validB x <;> cases validB y <;> simp
theorem dc_self (x : O3) : dcB x x = false := by
  unfold dcB
  rw [confl_self]; simp
theorem dc_item {x y : O3} (h : dcB x y = true) : (x.item == y.item) = true := by
  unfold dcB conflB at h
  simp at h
  simp [h]
set_option maxHeartbeats 2000000 in
theorem walk (A : Option Addr) (c n : Nat) (w : World) (hc : n ≤ c) (hl : n ≤ maxLen) (hR : RdB w w.heap.size A n) :
    Calls Try.prog 3 #[.slice A n c] w fun e w' => e = .returned (.bool true) ∧ Below w.heap.size w w' := by
  have HL := Lib.hid hl
  unfold maxLen at hl
  by_cases hbig : (1048576 : Int) < n
  · go_enter Try.func3, Try.ntmps3
    go_wp2
    go_ret
    exact ⟨rfl, Below.refl _ _⟩
  · go_enter Try.func3, Try.ntmps3
    go_wp2_with fail
    refine (DrawDoConflict_any A c n _ hc HL.out hR).mono ?_
    rintro e w1 ⟨⟨a, b, d, a', b', d', rfl⟩, hb1⟩
    have E1 := Lib.hid (show (validB ⟨a, b, d⟩ && (validB ⟨a', b', d'⟩ && conflB ⟨a, b, d⟩ ⟨a', b', d'⟩)) = dcB ⟨a, b, d⟩ ⟨a', b', d'⟩ from rfl)
    have E2 := Lib.hid (show (validB ⟨a', b', d'⟩ && (validB ⟨a, b, d⟩ && conflB ⟨a', b', d'⟩ ⟨a, b, d⟩)) = dcB ⟨a, b, d⟩ ⟨a', b', d'⟩ from dc_comm ⟨a, b, d⟩ ⟨a', b', d'⟩)
    have E3 := Lib.hid (show (validB ⟨a, b, d⟩ && (validB ⟨a, b, d⟩ && conflB ⟨a, b, d⟩ ⟨a, b, d⟩)) = false from dc_self ⟨a, b, d⟩)
    have E4 := Lib.hid (dc_same ⟨a, b, d⟩ ⟨a', b', d'⟩)
    have BA := Lib.hid ((Bx3.made w1 24 a b d).al (.cells #[.int .i64 a', .int .i64 b', .int .i64 d'] 24))
    have BB := Lib.hid (show Bx3 ((w1.alloc (.cells #[.int .i64 a, .int .i64 b, .int .i64 d] 24)).alloc (.cells #[.int .i64 a', .int .i64 b', .int .i64 d'] 24)) (w1.heap.size + 1) 24 a' b' d' by have h := Bx3.made (w1.alloc (.cells #[.int .i64 a, .int .i64 b, .int .i64 d] 24)) 24 a' b' d'; simpa using h)
    cases hD : dcB ⟨a, b, d⟩ ⟨a', b', d'⟩
    all_goals have HD := Lib.hid hD
    · clear hD
      go_wp2_with (first | (go_at_call 16; refine (impl_DoConflict_any _ _ _ _ _ _ _).mono ?_; rintro e w2 ⟨rfl, hb⟩; (first | rw [E1.out, HD.out] | rw [E2.out, HD.out] | rw [E3.out]); replace BA := Lib.hid (BA.out.be hb); replace BB := Lib.hid (BB.out.be hb); obtain ⟨a0, a1, a2, a3, a4, a5, a6⟩ := BA.out.at_; obtain ⟨b0, b1, b2, b3, b4, b5, b6⟩ := BB.out.at_) | (go_at_call 17; refine (spec_DoConflict_any _ _ _ _ _ _ _).mono ?_; rintro e w2 ⟨rfl, hb⟩; rw [E4.out, HD.out]; replace BA := Lib.hid (BA.out.be hb); replace BB := Lib.hid (BB.out.be hb); obtain ⟨a0, a1, a2, a3, a4, a5, a6⟩ := BA.out.at_; obtain ⟨b0, b1, b2, b3, b4, b5, b6⟩ := BB.out.at_))
      go_ret
      exact ⟨rfl, by (repeat' (first | (with_reducible exact Below.refl _ _) | (with_reducible assumption) | (with_reducible refine Below.al ?_ _) | (with_reducible refine Below.drew ?_) | (with_reducible refine Below.drN ?_ _) | (with_reducible refine Below.via (by with_reducible assumption) ?_) | (with_reducible refine Below.setc ?_ ?_ _) | (with_reducible exact Nat.le_refl _) | (simp; done) | (simp; omega)))⟩
    · have hi := dc_item hD
      clear hD
      go_wp2_with (first | (go_at_call 16; refine (impl_DoConflict_any _ _ _ _ _ _ _).mono ?_; rintro e w2 ⟨rfl, hb⟩; (first | rw [E1.out, HD.out] | rw [E2.out, HD.out] | rw [E3.out]); replace BA := Lib.hid (BA.out.be hb); replace BB := Lib.hid (BB.out.be hb); obtain ⟨a0, a1, a2, a3, a4, a5, a6⟩ := BA.out.at_; obtain ⟨b0, b1, b2, b3, b4, b5, b6⟩ := BB.out.at_) | (go_at_call 17; refine (spec_DoConflict_any _ _ _ _ _ _ _).mono ?_; rintro e w2 ⟨rfl, hb⟩; rw [E4.out, HD.out]; replace BA := Lib.hid (BA.out.be hb); replace BB := Lib.hid (BB.out.be hb); obtain ⟨a0, a1, a2, a3, a4, a5, a6⟩ := BA.out.at_; obtain ⟨b0, b1, b2, b3, b4, b5, b6⟩ := BB.out.at_))
      go_ret
      exact ⟨rfl, by (repeat' (first | (with_reducible exact Below.refl _ _) | (with_reducible assumption) | (with_reducible refine Below.al ?_ _) | (with_reducible refine Below.drew ?_) | (with_reducible refine Below.drN ?_ _) | (with_reducible refine Below.via (by with_reducible assumption) ?_) | (with_reducible refine Below.setc ?_ ?_ _) | (with_reducible exact Nat.le_refl _) | (simp; done) | (simp; omega)))⟩
theorem own : ownKnob Try.prog.godebug = none := by kernel_rfl
theorem laidOut : laidOutB Try.prog = true := by kernel_rfl
set_option maxRecDepth 100000 in
theorem lifted (os : Os) (started : os.Started) (H : Type) (enc : TypeId × Value → H) :
    ReturnsInHanded {} Try.checked os 3 .any (Rows.fnDoConflictSpec.pre6 enc Try.prog Try.f3 Rows.fnDoConflictRow.domain false) (Rows.fnDoConflictSpec.post enc Try.prog Try.f3 false true false false) := by
  refine returnsInHanded_of_change (C := Try.checked) own started (by kernel_rfl) Try.func3
    (ChangeSpec.witness6 (enc := enc) (C := Try.checked) false ⟨#[], #[.slice none 0 0], []⟩ 8 (by kernel_rfl) (by kernel_rfl) (by kernel_rfl) (by kernel_rfl)) ?_
  intro W base args ds gs before hval0 hW hcnd _
  have hval : ∀ (j : Nat) t v, Try.f3.params[j]? = some t → args[j]? = some v → Value.okWide Try.prog W .any base t v := hval0
  have hW' := hW
  obtain ⟨p, q, hA0, hV, rfl, hfz, hnd⟩ := hW
  have hA : DataW.TrodAll enc Try.prog W 0 (fun _ => true) true Try.f3.params.toList args.toList ds p := hA0
  rw [Try.params3] at hA hval
  obtain ⟨v0, vs0, d0, ds0, p0, q0, hargs, rfl, rfl, h0, r0⟩ := trodAll_cons hA
  obtain ⟨rfl, rfl, rfl⟩ := trodAll_nil r0
  obtain rfl : args = #[v0] := by cases args; simp_all
  obtain ⟨rfl, rfl⟩ := trodVars_none hV
  have k0 := h0
  have lt0 : ∀ x ∈ p0, x.block < W.heap.size := by obtain ⟨m, hm⟩ := k0; exact DataW.trod_lt m _ _ _ hm
  obtain ⟨A0, c0, n0, rfl, hc0, hl0, hR0⟩ := open_bytes Try.underlying22 Try.underlying5 (by kernel_rfl) (hval 0 22 v0 rfl rfl) h0
  clear hA0 hval0
  refine (walk A0 c0 n0 W hc0 hl0 hR0).mono fun e W' ⟨he, bel⟩ => ?_
  subst he
  exact ⟨_, rfl, _, _, _, [], _, [], hW', trodAll_mk1 (shut_bool Try.underlying4 _), (trodAll_cons_mk (Below.trod laidOut (by kernel_rfl) (of_decide_eq_true (by kernel_rfl)) k0 bel lt0) trodAll_mk0), rfl, bel.frame _, fun h => by cases h⟩
theorem holds : Rows.FnDoConflictSaid :=
  OpenClaim.holds_of_wide 3 Try.f3 rfl rfl rfl rfl rfl rfl rfl ⟨rfl, rfl, rfl, rfl, rfl⟩ rfl rfl rfl rfl rfl (by kernel_rfl) Try.func3 (by kernel_rfl)
    (of_decide_eq_true (by kernel_rfl)) (by unfold Func.isWrapper; rw [if_neg (of_decide_eq_false (by kernel_rfl))]; exact ⟨rfl, rfl⟩)
    (fun os started H enc _ => lifted os started H enc)
#print axioms holds
end Go.Proofs.Ytlcaadjlghbcpaa.ddoConflict
