/- The law FnExactIsTreeLocked answers true: the program's IsTreeLocked is the reference's, whatever the steps and the numbers. No condition. -/
import Derived.Test.YtejipiadapggmaaRows
import Derived.Test.YtejipiadapggmaaTlJ
import Derived.Test.YtejipiadapggmaaLaws
namespace Go.Proofs.Ytejipiadapggmaa.eisTreeLocked
set_option linter.unusedSimpArgs false
set_option linter.unusedVariables false
open Go.ChangeShapes Go.WideShapes Go.ChangeAt Go.RowKit
set_option maxRecDepth 100000 in
set_option maxHeartbeats 2000000 in
theorem walk (A : Option Addr) (c : Nat) (l : List O3) (A' : Option Addr) (c' : Nat) (p : List Int) (w : World) (hl : l.length ≤ maxLen) (hR : RdO w w.heap.size A l) (hl' : p.length ≤ maxLen) (hR' : RdI w w.heap.size A' p) (hw : ∀ n ∈ p, (Lit.int .i64 n).wf = true) :
    Calls Try.prog 5 #[.slice A l.length c, .slice A' p.length c'] w fun e w' => e = .returned (.bool true) ∧ Below w.heap.size w w' := by
  have HM := Lib.hid hl; clear hl
  have HM' := Lib.hid hl'; clear hl'
  by_cases hbp : (1048576 : Int) < p.length
  · go_enter Try.func5, Try.ntmps5
    go_wp2
    go_ret
    exact ⟨rfl, Below.refl _ _⟩
  · by_cases hbig : (1048576 : Int) < l.length
    · go_enter Try.func5, Try.ntmps5
      go_wp2_with fail
      refine (laws_szStepS_any _ _ _ _ _ HM.out (by omega) (by omega)).mono ?_
      rintro e w' ⟨rfl, rfl⟩
      rw [if_pos hbig]
      go_wp2
      go_ret
      exact ⟨rfl, Below.refl _ _⟩
    · have hL : l.length ≤ 1048576 := by omega
      have hL' : p.length ≤ 1048576 := by omega
      go_enter Try.func5, Try.ntmps5
      go_wp2_with fail
      refine (laws_szStepS_any _ _ _ _ _ HM.out (by omega) (by omega)).mono ?_
      rintro e w' ⟨rfl, rfl⟩
      rw [if_neg (by omega)]
      go_wp2_with fail
      refine (laws_toStepS_any _ _ _ _ hL hR).mono ?_
      rintro e w1 ⟨⟨g1, rfl, hO1⟩, hb1⟩
      go_wp2_with fail
      refine (laws_toIntS_any _ _ _ _ hL' (hR'.on hb1)).mono ?_
      rintro e w2 ⟨⟨g2, rfl, hO2⟩, hb2⟩
      go_wp2_with fail
      refine (spec_IsTreeLocked_any _ _ _ _ _ _ _ hL hL' hw (hO1.rd.on hb2) hO2.rd).mono ?_
      rintro e w3 ⟨rfl, hb3⟩
      have B3 := Lib.hid (Below.trans hb1 ((Below.trans hb2 (hb3.mono hb2.size)).mono hb1.size))
      clear hb1 hb2 hb3 hO1 hO2
      go_wp2_with fail
      refine (laws_toStepS_any _ _ _ _ hL (hR.on B3.out)).mono ?_
      rintro e w4 ⟨⟨g4, rfl, hO4⟩, hb4⟩
      go_wp2_with fail
      refine (laws_toIntS_any _ _ _ _ hL' ((hR'.on B3.out).on hb4)).mono ?_
      rintro e w5 ⟨⟨g5, rfl, hO5⟩, hb5⟩
      go_wp2_with fail
      refine (impl_IsTreeLocked_any _ _ _ _ _ _ _ hL hL' hw (hO4.rd.on hb5) hO5.rd).mono ?_
      rintro e w6 ⟨rfl, hb6⟩
      have B6 := Lib.hid (Below.trans B3.out ((Below.trans hb4 ((Below.trans hb5 (hb6.mono hb5.size)).mono hb4.size)).mono B3.out.size))
      have X4 := Lib.hid ((hO4.rd.on hb5).on hb6)
      have X5 := Lib.hid (hO5.rd.on hb6)
      clear hb4 hb5 hb6 hO4 hO5
      go_wp2_with fail
      refine (laws_toStepS_any _ _ _ _ hL (hR.on B6.out)).mono ?_
      rintro e w7 ⟨⟨g7, rfl, hO7⟩, hb7⟩
      go_wp2_with fail
      refine (laws_eqStepS_any _ _ _ _ _ _ HM.out (X4.out.on hb7) hO7.rd).mono ?_
      rintro e w8 ⟨rfl, hb8⟩
      have B8 := Lib.hid (Below.trans B6.out (Below.trans hb7 (hb8.mono hb7.size) |>.mono B6.out.size))
      have X6 := Lib.hid ((X5.out.on hb7).on hb8)
      clear hb7 hb8 hO7
      go_wp2_with fail
      refine (laws_toIntS_any _ _ _ _ hL' (hR'.on B8.out)).mono ?_
      rintro e w9 ⟨⟨g9, rfl, hO9⟩, hb9⟩
      go_wp2_with fail
      refine (laws_eqIntS_any _ _ _ _ _ _ HM'.out (X6.out.on hb9) hO9.rd).mono ?_
      rintro e w10 ⟨rfl, hb10⟩
      have h8 := B8.out
      go_wp2
      go_ret
      exact ⟨rfl, by (repeat' (first | (with_reducible exact Below.refl _ _) | (with_reducible assumption) | (with_reducible refine Below.al ?_ _) | (with_reducible refine Below.drew ?_) | (with_reducible refine Below.drN ?_ _) | (with_reducible refine Below.via (by with_reducible assumption) ?_) | (with_reducible refine Below.setc ?_ ?_ _) | (with_reducible exact Nat.le_refl _) | (simp; done) | (simp; omega)))⟩
theorem own : ownKnob Try.prog.godebug = none := by kernel_rfl
theorem laidOut : laidOutB Try.prog = true := by kernel_rfl
theorem cells51 : Try.prog.cellsOf 51 = 3 := by kernel_rfl
set_option maxRecDepth 100000 in
theorem lifted (os : Os) (started : os.Started) (H : Type) (enc : TypeId × Value → H) :
    ReturnsInHanded {} Try.checked os 5 .any (Rows.fnExactIsTreeLockedSpec.pre6 enc Try.prog Try.f5 Rows.fnExactIsTreeLockedRow.domain false) (Rows.fnExactIsTreeLockedSpec.post enc Try.prog Try.f5 false true false false) := by
  refine returnsInHanded_of_change (C := Try.checked) own started (by kernel_rfl) Try.func5
    (ChangeSpec.witness6 (enc := enc) (C := Try.checked) false ⟨#[], #[.slice none 0 0, .slice none 0 0], []⟩ 8 (by kernel_rfl) (by kernel_rfl) (by kernel_rfl) (by kernel_rfl)) ?_
  intro W base args ds gs before hval0 hW hcnd _
  have hval : ∀ (j : Nat) t v, Try.f5.params[j]? = some t → args[j]? = some v → Value.okWide Try.prog W .any base t v := hval0
  have hW' := hW
  obtain ⟨p, q, hA0, hV, rfl, hfz, hnd⟩ := hW
  have hA : DataW.TrodAll enc Try.prog W 0 (fun _ => true) true Try.f5.params.toList args.toList ds p := hA0
  rw [Try.params5] at hA hval
  obtain ⟨v0, vs0, d0, ds0, p0, q0, hargs, rfl, rfl, h0, r0⟩ := trodAll_cons hA
  obtain ⟨v1, vs1, d1, ds1, p1, q1, rfl, rfl, rfl, h1, r1⟩ := trodAll_cons r0
  obtain ⟨rfl, rfl, rfl⟩ := trodAll_nil r1
  obtain rfl : args = #[v0, v1] := by cases args; simp_all
  obtain ⟨rfl, rfl⟩ := trodVars_none hV
  have k0 := h0
  have lt0 : ∀ x ∈ p0, x.block < W.heap.size := by obtain ⟨m, hm⟩ := k0; exact DataW.trod_lt m _ _ _ hm
  obtain ⟨A0, c0, l0, rfl, hl0, hR0⟩ := open_ops Try.underlying22 Try.underlying51 (by kernel_rfl) cells51 Try.underlying3 Try.underlying3 Try.underlying3 (hval 0 22 v0 rfl rfl) h0
  have k1 := h1
  have lt1 : ∀ x ∈ p1, x.block < W.heap.size := by obtain ⟨m, hm⟩ := k1; exact DataW.trod_lt m _ _ _ hm
  obtain ⟨A1, c1, l1, rfl, hl1, hR1, hw1⟩ := open_nums Try.underlying24 Try.underlying3 (by kernel_rfl) (hval 1 24 v1 rfl rfl) h1
  clear hA0 hval0
  refine (walk A0 c0 l0 A1 c1 l1 W hl0 hR0 hl1 hR1 hw1).mono fun e W' ⟨he, bel⟩ => ?_
  subst he
  exact ⟨_, rfl, _, _, _, [], _, [], hW', trodAll_mk1 (shut_bool Try.underlying4 _), (trodAll_cons_mk (Below.trod laidOut (by kernel_rfl) (of_decide_eq_true (by kernel_rfl)) k0 bel lt0) (trodAll_cons_mk (Below.trod laidOut (by kernel_rfl) (of_decide_eq_true (by kernel_rfl)) k1 bel lt1) trodAll_mk0)), rfl, bel.frame _, fun h => by cases h⟩
theorem holds : Rows.FnExactIsTreeLockedSaid :=
  OpenClaim.holds_of_wide 5 Try.f5 rfl rfl rfl rfl rfl rfl rfl ⟨rfl, rfl, rfl, rfl, rfl⟩ rfl rfl rfl rfl rfl (by kernel_rfl) Try.func5 (by kernel_rfl)
    (of_decide_eq_true (by kernel_rfl)) (by unfold Func.isWrapper; rw [if_neg (of_decide_eq_false (by kernel_rfl))]; exact ⟨rfl, rfl⟩)
    (fun os started H enc _ => lifted os started H enc)
#print axioms holds
end Go.Proofs.Ytejipiadapggmaa.eisTreeLocked
