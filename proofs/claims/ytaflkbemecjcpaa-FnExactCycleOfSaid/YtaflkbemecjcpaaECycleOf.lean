/- The law FnExactCycleOf answers true: the program's CycleOf is the reference's, whatever the operations. No condition. -/
import Derived.Test.YtaflkbemecjcpaaRows
import Derived.Test.YtaflkbemecjcpaaCyK
import Derived.Test.YtaflkbemecjcpaaLaws
namespace Go.Proofs.Ytaflkbemecjcpaa.ecycleOf
set_option linter.unusedSimpArgs false
set_option linter.unusedVariables false
open Go.ChangeShapes Go.WideShapes Go.ChangeAt Go.RowKit
set_option maxRecDepth 100000 in
set_option maxHeartbeats 4000000 in
theorem walk (A : Option Addr) (c : Nat) (l : List O3) (w : World) (hl : l.length ≤ maxLen) (hR : RdO w w.heap.size A l) :
    Calls Try.prog 8 #[.slice A l.length c] w fun e w' => e = .returned (.bool true) ∧ Below w.heap.size w w' := by
  have HM := Lib.hid hl; clear hl
  by_cases hbig : (1048576 : Int) < l.length
  · go_enter Try.func8, Try.ntmps8
    go_wp2_with (go_at_call 10; refine (laws_szOpS_any _ _ _ _ _ HM.out (by omega) (by omega)).mono ?_; rintro e w' ⟨rfl, rfl⟩; rw [if_pos hbig])
    go_ret
    exact ⟨rfl, Below.refl _ _⟩
  · have hL : l.length ≤ 1048576 := by omega
    have HF := Lib.hid (cycV_len l hL)
    have HL := Lib.hid hL
    have HR := Lib.hid hR; clear hR
    go_enter Try.func8, Try.ntmps8
    go_wp2_with fail
    refine (laws_szOpS_any _ _ _ _ _ HM.out (by omega) (by omega)).mono ?_
    rintro e w' ⟨rfl, rfl⟩
    rw [if_neg (by have := HL.out; omega)]
    clear hbig
    go_wp2_with fail
    refine (laws_toOpS_any _ _ _ _ HL.out HR.out).mono ?_
    rintro e w1 ⟨⟨g1, rfl, hO1⟩, hb1⟩
    have O1 := Lib.hid hO1; have b1 := Lib.hid hb1; clear hO1 hb1
    go_wp2_with fail
    refine (spec_CycleOf_any _ _ _ _ HL.out (Nat.le_refl _) O1.out.rd).mono ?_
    rintro e w2 ⟨⟨v0, rfl, hO⟩, hb⟩
    obtain ⟨A0, c0, rfl, _⟩ := hO.reads
    have O2 := Lib.hid hO; have b2 := Lib.hid (Below.via hb b1.out); clear hO hb O1 b1
    go_wp2_with fail
    refine (laws_toOpS_any _ _ _ _ HL.out (HR.out.on b2.out)).mono ?_
    rintro e w3 ⟨⟨g3, rfl, hO3⟩, hb3⟩
    have O3 := Lib.hid hO3; have b3 := Lib.hid hb3; clear hO3 hb3
    go_wp2_with fail
    refine (impl_CycleOf_any _ _ _ _ HL.out (Nat.le_refl _) O3.out.rd).mono ?_
    rintro e w4 ⟨⟨v4, rfl, hO⟩, hb⟩
    obtain ⟨A4, c4, rfl, _⟩ := hO.reads
    have HS := Lib.hid (St.start b2.out O2.out b3.out O3.out hb hO); clear hO hb O2 b2 O3 b3
    go_wp2_with fail
    refine (laws_eqIntS_any _ _ _ _ _ _ (by have := HF.out; unfold maxLen; omega) (OwnI.rd (show OwnI _ _ _ _ _ from HS.out.g)) (OwnI.rd (show OwnI _ _ _ _ _ from HS.out.s))).mono ?_
    rintro e w5 ⟨rfl, hb⟩
    have HS' := Lib.hid (HS.out.on hb); clear hb HS; have HS := HS'; clear HS'
    go_wp2_with fail
    refine (laws_toOpS_any _ _ _ _ HL.out (HR.out.on HS.out.bel)).mono ?_
    rintro e w6 ⟨⟨g6, rfl, hO6⟩, hb⟩
    have O6 := Lib.hid hO6; clear hO6
    have HS' := Lib.hid (HS.out.on hb); clear hb HS; have HS := HS'; clear HS'
    go_wp2_with fail
    refine (laws_eqOpS_any _ _ _ _ _ _ HM.out (OwnO.rd (show OwnO _ _ _ _ _ from HS.out.x)) O6.out.rd).mono ?_
    rintro e w7 ⟨rfl, hb⟩
    clear O6
    have HS' := Lib.hid (HS.out.on hb); clear hb HS; have HS := HS'; clear HS'
    go_wp2_with fail
    refine (laws_markOpS_any _ _ _ _ _ _ HL.out (by omega) HS.out.x).mono ?_
    rintro e w8 ⟨rfl, hO, hg⟩
    unfold OwnO at hO; rw [markL_len] at hO
    have HS' := Lib.hid (HS.out.markX hO hg); clear hO hg HS; have HS := HS'; clear HS'
    go_wp2_with fail
    refine (laws_eqIntS_any _ _ _ _ _ _ (by have := HF.out; unfold maxLen; omega) (OwnI.rd (show OwnI _ _ _ _ _ from HS.out.g)) (OwnI.rd (show OwnI _ _ _ _ _ from HS.out.s))).mono ?_
    rintro e w9 ⟨rfl, hb⟩
    have HS' := Lib.hid (HS.out.on hb); clear hb HS; have HS := HS'; clear HS'
    go_wp2_with fail
    refine (laws_markIntS_any _ _ _ _ _ _ HF.out (by omega) HS.out.g).mono ?_
    rintro e w10 ⟨rfl, hO, hg⟩
    unfold OwnI at hO; rw [markN_len] at hO
    have HS' := Lib.hid (HS.out.markG hO hg); clear hO hg HS; have HS := HS'; clear HS'
    go_wp2_with fail
    refine (laws_heldIntS_any _ _ _ _ _ HF.out (by omega) (OwnI.rd (l := markN 1 (cycV l).length) (show OwnI _ _ _ _ _ by unfold OwnI; rw [markN_len]; exact HS.out.g))).mono ?_
    rintro e w' ⟨rfl, rfl⟩
    go_wp2_with fail
    refine (laws_toOpS_any _ _ _ _ HL.out (HR.out.on HS.out.bel)).mono ?_
    rintro e w11 ⟨⟨g11, rfl, hO11⟩, hb⟩
    have O11 := Lib.hid hO11; clear hO11
    have HS' := Lib.hid (HS.out.on hb); clear hb HS; have HS := HS'; clear HS'
    go_wp2_with fail
    refine (impl_CycleOf_any _ _ _ _ HL.out (Nat.le_refl _) O11.out.rd).mono ?_
    rintro e w12 ⟨⟨v12, rfl, hO⟩, hb⟩
    obtain ⟨A12, c12, rfl, _⟩ := hO.reads
    have O12 := Lib.hid hO; clear hO O11
    have HS' := Lib.hid (HS.out.on hb); clear hb HS; have HS := HS'; clear HS'
    go_wp2_with fail
    refine (laws_eqIntS_any _ _ _ _ _ _ (by have := HF.out; unfold maxLen; omega) O12.out.rd (OwnI.rd (show OwnI _ _ _ _ _ from HS.out.s))).mono ?_
    rintro e w13 ⟨rfl, hb⟩
    clear O12
    have HS' := Lib.hid (HS.out.on hb); clear hb HS; have HS := HS'; clear HS'
    go_wp2_with fail
    refine (laws_heldIntS_any _ _ _ _ _ HF.out (by omega) (OwnI.rd (l := markN 1 (cycV l).length) (show OwnI _ _ _ _ _ by unfold OwnI; rw [markN_len]; exact HS.out.g))).mono ?_
    rintro e w' ⟨rfl, rfl⟩
    go_wp2
    go_ret
    exact ⟨rfl, HS.out.bel⟩
theorem own : ownKnob Try.prog.godebug = none := by kernel_rfl
theorem laidOut : laidOutB Try.prog = true := by kernel_rfl
theorem cells52 : Try.prog.cellsOf 52 = 3 := by kernel_rfl
set_option maxRecDepth 100000 in
theorem lifted (os : Os) (started : os.Started) (H : Type) (enc : TypeId × Value → H) :
    ReturnsInHanded {} Try.checked os 8 .any (Rows.fnExactCycleOfSpec.pre6 enc Try.prog Try.f8 Rows.fnExactCycleOfRow.domain false) (Rows.fnExactCycleOfSpec.post enc Try.prog Try.f8 false true false false) := by
  refine returnsInHanded_of_change (C := Try.checked) own started (by kernel_rfl) Try.func8
    (ChangeSpec.witness6 (enc := enc) (C := Try.checked) false ⟨#[], #[.slice none 0 0], []⟩ 8 (by kernel_rfl) (by kernel_rfl) (by kernel_rfl) (by kernel_rfl)) ?_
  intro W base args ds gs before hval0 hW hcnd _
  have hval : ∀ (j : Nat) t v, Try.f8.params[j]? = some t → args[j]? = some v → Value.okWide Try.prog W .any base t v := hval0
  have hW' := hW
  obtain ⟨p, q, hA0, hV, rfl, hfz, hnd⟩ := hW
  have hA : DataW.TrodAll enc Try.prog W 0 (fun _ => true) true Try.f8.params.toList args.toList ds p := hA0
  rw [Try.params8] at hA hval
  obtain ⟨v0, vs0, d0, ds0, p0, q0, hargs, rfl, rfl, h0, r0⟩ := trodAll_cons hA
  obtain ⟨rfl, rfl, rfl⟩ := trodAll_nil r0
  obtain rfl : args = #[v0] := by cases args; simp_all
  obtain ⟨rfl, rfl⟩ := trodVars_none hV
  have k0 := h0
  have lt0 : ∀ x ∈ p0, x.block < W.heap.size := by obtain ⟨m, hm⟩ := k0; exact DataW.trod_lt m _ _ _ hm
  obtain ⟨A0, c0, l0, rfl, hl0, hR0⟩ := open_ops Try.underlying22 Try.underlying52 (by kernel_rfl) cells52 Try.underlying3 Try.underlying3 Try.underlying3 (hval 0 22 v0 rfl rfl) h0
  clear hA0 hval0
  refine (walk A0 c0 l0 W hl0 hR0).mono fun e W' ⟨he, bel⟩ => ?_
  subst he
  exact ⟨_, rfl, _, _, _, [], _, [], hW', trodAll_mk1 (shut_bool Try.underlying4 _), (trodAll_cons_mk (Below.trod laidOut (by kernel_rfl) (of_decide_eq_true (by kernel_rfl)) k0 bel lt0) trodAll_mk0), rfl, bel.frame _, fun h => by cases h⟩
theorem holds : Rows.FnExactCycleOfSaid :=
  OpenClaim.holds_of_wide 8 Try.f8 rfl rfl rfl rfl rfl rfl rfl ⟨rfl, rfl, rfl, rfl, rfl⟩ rfl rfl rfl rfl rfl (by kernel_rfl) Try.func8 (by kernel_rfl)
    (of_decide_eq_true (by kernel_rfl)) (by unfold Func.isWrapper; rw [if_neg (of_decide_eq_false (by kernel_rfl))]; exact ⟨rfl, rfl⟩)
    (fun os started H enc _ => lifted os started H enc)
#print axioms holds
end Go.Proofs.Ytaflkbemecjcpaa.ecycleOf
