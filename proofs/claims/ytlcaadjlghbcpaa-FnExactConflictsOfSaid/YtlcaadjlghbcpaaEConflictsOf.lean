/- The law FnExactConflictsOf answers true: the program's ConflictsOf is the reference's, whatever the operations. No condition. -/
import Derived.Test.YtlcaadjlghbcpaaRows
import Derived.Test.YtlcaadjlghbcpaaLawsC
namespace Go.Proofs.Ytlcaadjlghbcpaa.econflictsOf
set_option linter.unusedSimpArgs false
set_option linter.unusedVariables false
open Go.ChangeShapes Go.WideShapes Go.ChangeAt Go.RowKit
theorem slice_form {w : World} {B : Nat} {v : Value} {rn : List (Nat × Int × Int)} (h : CRg w B v rn) : ∃ A c, v = .slice A rn.length c := by obtain ⟨A, c, e, _⟩ := OwnG.clip h.own; exact ⟨A, c, e⟩
set_option maxRecDepth 100000 in
set_option maxHeartbeats 4000000 in
theorem walk (A : Option Addr) (c : Nat) (l : List O3) (w : World) (hl : l.length ≤ maxLen) (hR : RdO w w.heap.size A l) :
    Calls Try.prog 14 #[.slice A l.length c] w fun e w' => e = .returned (.bool true) ∧ Below w.heap.size w w' := by
  have HM := Lib.hid hl; clear hl
  by_cases hbig : (1048576 : Int) < l.length
  · go_enter Try.func14, Try.ntmps14
    go_wp2_with (go_at_call 47; refine (laws_szOpS_any _ _ _ _ _ HM.out (by omega) (by omega)).mono ?_; rintro e w' ⟨rfl, rfl⟩; rw [if_pos hbig])
    go_ret
    exact ⟨rfl, Below.refl _ _⟩
  · have hL : l.length ≤ 1048576 := by omega
    have HL := Lib.hid hL
    have HR := Lib.hid hR; clear hR
    go_enter Try.func14, Try.ntmps14
    go_wp2_with fail
    refine (laws_szOpS_any _ _ _ _ _ HM.out (by omega) (by omega)).mono ?_
    rintro e w' ⟨rfl, rfl⟩
    rw [if_neg (by have := HL.out; omega)]
    clear hbig
    go_wp2_with fail
    refine (laws_toOpS_any _ _ _ _ HL.out HR.out).mono ?_
    rintro e w1 ⟨⟨g1, rfl, hO1⟩, hb1⟩
    have O1 := Lib.hid hO1; have b1 := Lib.hid hb1; clear hO1 hb1
    go_wp2_with fail
    refine (spec_ConflictsOf_any _ _ _ _ HL.out (Nat.le_refl _) O1.out.rd).mono ?_
    rintro e w2 ⟨⟨v0, rn0, rfl, hO, hp0⟩, hb⟩
    obtain ⟨A0, c0, rfl⟩ := slice_form hO
    have S0 := Lib.hid hO; have BA := Lib.hid (Below.via hb b1.out); have P0 := Lib.hid hp0
    have hn0 : rn0.length ≤ 1000 := by have := cfsV_le l; rw [← hp0, List.length_map] at this; exact this
    clear hO hb O1 b1 hp0
    go_wp2_with fail
    refine (laws_toOpS_any _ _ _ _ HL.out (HR.out.on BA.out)).mono ?_
    rintro e w3 ⟨⟨g3, rfl, hO3⟩, hb3⟩
    have X3 := Lib.hid hO3
    have B3 := Lib.hid hb3; clear hO3 hb3
    go_wp2_with fail
    refine (impl_ConflictsOf_any _ _ _ _ HL.out (Nat.le_refl _) X3.out.rd).mono ?_
    rintro e w4 ⟨⟨v4, rn, rfl, hO, hp4⟩, hb⟩
    obtain ⟨A4, c4, rfl⟩ := slice_form hO
    have hps : rn.map Prod.snd = rn0.map Prod.snd := hp4.trans P0.out.symm
    have HE := Lib.hid hps
    have hnn : rn.length ≤ 1000 := by have := congrArg List.length hps; simp at this; omega
    have G4 := Lib.hid hO
    have X4 := Lib.hid (X3.out.on hb)
    have BS4 := Lib.hid (show Below w2.heap.size w2 w4 from Below.via hb B3.out)
    have hz23 := B3.out.size
    have hz34 := hb.size
    have hx3 : w2.heap.size ≤ g3 ∧ g3 < w3.heap.size := OwnG.own_lt X3.out g3 rfl
    have BA4 := Lib.hid (Below.via BS4.out BA.out)
    clear hO hb X3 hps hp4
    -- w4: the two lists are equal
    go_wp2_with fail
    refine (eqIntSS_any _ _ _ _ _ _ rn rn0 _ (by omega) G4.out (S0.out.on BS4.out) HE.out).mono ?_
    rintro e w5 ⟨rfl, hb⟩
    have G5 := Lib.hid (G4.out.on hb); have X5 := Lib.hid (X4.out.on hb); have BS5 := Lib.hid (Below.via hb BS4.out); have BA5 := Lib.hid (Below.via hb BA4.out); have hz5 := hb.size
    clear hb G4 X4 BS4 BA4
    go_wp2_with fail
    refine (laws_toOpS_any _ _ _ _ HL.out (HR.out.on BA5.out)).mono ?_
    rintro e w6 ⟨⟨g6, rfl, hO6⟩, hb⟩
    have O6 := Lib.hid hO6
    have G6 := Lib.hid (G5.out.on hb); have X6 := Lib.hid (X5.out.on hb); have BS6 := Lib.hid (Below.via hb BS5.out); have BA6 := Lib.hid (Below.via hb BA5.out); have hz6 := hb.size
    clear hb G5 X5 BS5 BA5 hO6
    go_wp2_with fail
    refine (laws_eqOpS_any _ _ _ _ _ _ HM.out X6.out.rd O6.out.rd).mono ?_
    rintro e w7 ⟨rfl, hb⟩
    have G7 := Lib.hid (G6.out.on hb); have X7 := Lib.hid (X6.out.on hb); have BS7 := Lib.hid (Below.via hb BS6.out); have BA7 := Lib.hid (Below.via hb BA6.out); have hz7 := hb.size
    clear hb G6 X6 BS6 BA6 O6
    go_wp2_with fail
    refine (laws_markOpS_any _ _ _ _ _ _ HL.out (by omega) X7.out).mono ?_
    rintro e w8 ⟨rfl, hO, hg⟩
    have hg' : w7.grownBy w8 (some g3) := hg
    have G8 := Lib.hid (G7.out.far_ hg' hx3.2)
    have BS8 := Lib.hid (BS7.out.grown hg' BS7.out.size (fun k hk => by simp at hk; omega))
    have BA8 := Lib.hid (BA7.out.grown hg' BA7.out.size (fun k hk => by have := BA.out.size; simp at hk; omega))
    have hz8 := hg.size
    clear hO hg hg' G7 X7 BS7 BA7
    go_wp2_with fail
    refine (eqIntSS_any _ _ _ _ _ _ rn rn0 _ (by omega) G8.out (S0.out.on BS8.out) HE.out).mono ?_
    rintro e w9 ⟨rfl, hb⟩
    have G9 := Lib.hid (G8.out.on hb); have BS9 := Lib.hid (Below.via hb BS8.out); have BA9 := Lib.hid (Below.via hb BA8.out); have hz9 := hb.size
    clear hb G8 BS8 BA8
    obtain ⟨f, hf⟩ := G9.out.toF
    have F9 := Lib.hid hf; clear hf
    go_wp2_with fail
    refine (markIntSS_any _ _ _ rn f 1 _ hnn (by omega) F9.out (by omega)).mono ?_
    rintro e w10 ⟨rfl, hF, hb⟩
    have F10 := Lib.hid hF
    have BS10 := Lib.hid (BS9.out.trans (hb.mono hz23))
    have BA10 := Lib.hid (BA9.out.trans (hb.mono (by have := BA.out.size; omega)))
    clear hb F9 G9 BS9 BA9 hF
    go_wp2_with fail
    refine (heldIntSS_any _ _ _ rn 1 _ hnn (by omega) F10.out).mono ?_
    rintro e w' ⟨rfl, rfl⟩
    go_wp2_with fail
    refine (laws_toOpS_any _ _ _ _ HL.out (HR.out.on BA10.out)).mono ?_
    rintro e w11 ⟨⟨g11, rfl, hO11⟩, hb⟩
    have O11 := Lib.hid hO11
    have F11 := Lib.hid (F10.out.on hb); have BS11 := Lib.hid (Below.via hb BS10.out); have BA11 := Lib.hid (Below.via hb BA10.out)
    clear hb F10 BS10 BA10 hO11
    go_wp2_with fail
    refine (impl_ConflictsOf_any _ _ _ _ HL.out (Nat.le_refl _) O11.out.rd).mono ?_
    rintro e w12 ⟨⟨v12, rn12, rfl, hO, hp12⟩, hb⟩
    obtain ⟨A12, c12, rfl⟩ := slice_form hO
    have hps : rn12.map Prod.snd = rn0.map Prod.snd := hp12.trans P0.out.symm
    have hnn12 : rn12.length ≤ 1000 := by have := congrArg List.length hps; simp at this; omega
    have HE2 := Lib.hid hps
    have G12 := Lib.hid hO
    have F12 := Lib.hid (F11.out.on hb); have BS12 := Lib.hid (Below.via hb BS11.out); have BA12 := Lib.hid (Below.via hb BA11.out)
    clear hb F11 BS11 BA11 O11 hO hps hp12
    go_wp2_with fail
    refine (eqIntSS_any _ _ _ _ _ _ rn12 rn0 _ (by omega) G12.out (S0.out.on BS12.out) HE2.out).mono ?_
    rintro e w13 ⟨rfl, hb⟩
    have F13 := Lib.hid (F12.out.on hb); have BA13 := Lib.hid (Below.via hb BA12.out)
    clear hb F12 BS12 BA12 G12
    go_wp2_with fail
    refine (heldIntSS_any _ _ _ rn 1 _ hnn (by omega) F13.out).mono ?_
    rintro e w' ⟨rfl, rfl⟩
    go_wp2
    go_ret
    exact ⟨rfl, BA13.out⟩
theorem own : ownKnob Try.prog.godebug = none := by kernel_rfl
theorem laidOut : laidOutB Try.prog = true := by kernel_rfl
theorem cells63 : Try.prog.cellsOf 63 = 3 := by kernel_rfl
set_option maxRecDepth 100000 in
theorem lifted (os : Os) (started : os.Started) (H : Type) (enc : TypeId × Value → H) :
    ReturnsInHanded {} Try.checked os 14 .any (Rows.fnExactConflictsOfSpec.pre6 enc Try.prog Try.f14 Rows.fnExactConflictsOfRow.domain false) (Rows.fnExactConflictsOfSpec.post enc Try.prog Try.f14 false true false false) := by
  refine returnsInHanded_of_change (C := Try.checked) own started (by kernel_rfl) Try.func14
    (ChangeSpec.witness6 (enc := enc) (C := Try.checked) false ⟨#[], #[.slice none 0 0], []⟩ 8 (by kernel_rfl) (by kernel_rfl) (by kernel_rfl) (by kernel_rfl)) ?_
  intro W base args ds gs before hval0 hW hcnd _
  have hval : ∀ (j : Nat) t v, Try.f14.params[j]? = some t → args[j]? = some v → Value.okWide Try.prog W .any base t v := hval0
  have hW' := hW
  obtain ⟨p, q, hA0, hV, rfl, hfz, hnd⟩ := hW
  have hA : DataW.TrodAll enc Try.prog W 0 (fun _ => true) true Try.f14.params.toList args.toList ds p := hA0
  rw [Try.params14] at hA hval
  obtain ⟨v0, vs0, d0, ds0, p0, q0, hargs, rfl, rfl, h0, r0⟩ := trodAll_cons hA
  obtain ⟨rfl, rfl, rfl⟩ := trodAll_nil r0
  obtain rfl : args = #[v0] := by cases args; simp_all
  obtain ⟨rfl, rfl⟩ := trodVars_none hV
  have k0 := h0
  have lt0 : ∀ x ∈ p0, x.block < W.heap.size := by obtain ⟨m, hm⟩ := k0; exact DataW.trod_lt m _ _ _ hm
  obtain ⟨A0, c0, l0, rfl, hl0, hR0⟩ := open_ops Try.underlying46 Try.underlying63 (by kernel_rfl) cells63 Try.underlying3 Try.underlying3 Try.underlying3 (hval 0 46 v0 rfl rfl) h0
  clear hA0 hval0
  refine (walk A0 c0 l0 W hl0 hR0).mono fun e W' ⟨he, bel⟩ => ?_
  subst he
  exact ⟨_, rfl, _, _, _, [], _, [], hW', trodAll_mk1 (shut_bool Try.underlying4 _), (trodAll_cons_mk (Below.trod laidOut (by kernel_rfl) (of_decide_eq_true (by kernel_rfl)) k0 bel lt0) trodAll_mk0), rfl, bel.frame _, fun h => by cases h⟩
theorem holds : Rows.FnExactConflictsOfSaid :=
  OpenClaim.holds_of_wide 14 Try.f14 rfl rfl rfl rfl rfl rfl rfl ⟨rfl, rfl, rfl, rfl, rfl⟩ rfl rfl rfl rfl rfl (by kernel_rfl) Try.func14 (by kernel_rfl)
    (of_decide_eq_true (by kernel_rfl)) (by unfold Func.isWrapper; rw [if_neg (of_decide_eq_false (by kernel_rfl))]; exact ⟨rfl, rfl⟩)
    (fun os started H enc _ => lifted os started H enc)
#print axioms holds
end Go.Proofs.Ytlcaadjlghbcpaa.econflictsOf
