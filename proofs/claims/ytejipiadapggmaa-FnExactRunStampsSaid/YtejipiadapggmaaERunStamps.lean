/- The law FnExactRunStamps answers true: the program's RunStamps is the reference's, whatever the operations and the flag. No condition. -/
import Derived.Test.YtejipiadapggmaaRows
import Derived.Test.YtejipiadapggmaaRsR
import Derived.Test.YtejipiadapggmaaLaws
namespace Go.Proofs.Ytejipiadapggmaa.erunStamps
set_option linter.unusedSimpArgs false
set_option linter.unusedVariables false
open Go.ChangeShapes Go.WideShapes Go.ChangeAt Go.RowKit
/-- Two slices share no block. -/
def D (v v' : Value) : Prop := ∀ k, v.ownBlock = some k → v'.ownBlock ≠ some k
theorem D.symm {v v' : Value} (h : D v v') : D v' v := fun k e e' => h k e' e
/-- The reference's two results, the argument's copy, the program's two results. -/
structure S5 (w0 w : World) (b0 bx bg : Nat) (v0 v1 vx vg vh : Value) (n0 n1 nx ng nh : Nat) (xs0 xs1 xsx xsg xsh : List Value) : Prop where
  bel : Below w0.heap.size w0 w
  s : OwnG w b0 60 v0 n0 xs0
  t : OwnG w b0 3 v1 n1 xs1
  x : OwnG w bx 60 vx nx xsx
  g : OwnG w bg 60 vg ng xsg
  h : OwnG w bg 3 vh nh xsh
  dx : D v0 vx ∧ D v1 vx ∧ D vg vx ∧ D vh vx
  dg : D v0 vg ∧ D v1 vg ∧ D vx vg ∧ D vh vg
  dh : D v0 vh ∧ D v1 vh ∧ D vx vh ∧ D vg vh
  lx : ∀ k, vx.ownBlock = some k → w0.heap.size ≤ k
  lg : ∀ k, vg.ownBlock = some k → w0.heap.size ≤ k
  lh : ∀ k, vh.ownBlock = some k → w0.heap.size ≤ k
section
variable {w0 w w' w2 w3 : World} {b0 bx bg : Nat} {v0 v1 vx vg vh : Value} {n0 n1 nx ng nh : Nat} {xs0 xs1 xsx xsg xsh xs' : List Value}
theorem S5.start {d0 d1 : List O3} {x0 x1 : List Int} (hbel : Below w0.heap.size w0 w2) (h2 : RsP w2 b0 v0 v1 d0 x0) (hb3 : Below w2.heap.size w2 w3) (h3 : OwnG w3 w2.heap.size 60 vx nx xsx) (hb4 : Below w3.heap.size w3 w) (h4 : RsP w w3.heap.size vg vh d1 x1) :
    S5 w0 w b0 w2.heap.size w3.heap.size v0 v1 vx vg vh d0.length x0.length nx d1.length x1.length (cellsO d0) (cellsI x0) xsx (cellsO d1) (cellsI x1) := by
  have a0 := h2.o.own_lt
  have a1 := h2.i.own_lt
  have b := h3.own_lt
  have c0 := h4.o.own_lt
  have c1 := h4.i.own_lt
  have z1 := hbel.size
  have z2 := hb3.size
  have d0x : D v0 vx := fun k e e' => by have := a0 k e; have := b k e'; omega
  have d1x : D v1 vx := fun k e e' => by have := a1 k e; have := b k e'; omega
  have dgx : D vg vx := fun k e e' => by have := c0 k e; have := b k e'; omega
  have dhx : D vh vx := fun k e e' => by have := c1 k e; have := b k e'; omega
  have d0g : D v0 vg := fun k e e' => by have := a0 k e; have := c0 k e'; omega
  have d1g : D v1 vg := fun k e e' => by have := a1 k e; have := c0 k e'; omega
  have d0h : D v0 vh := fun k e e' => by have := a0 k e; have := c1 k e'; omega
  have d1h : D v1 vh := fun k e e' => by have := a1 k e; have := c1 k e'; omega
  have dgh : D vg vh := h4.ne
  exact ⟨Below.via hb4 (Below.via hb3 hbel), (OwnG.on h2.o hb3).on hb4, (OwnG.on h2.i hb3).on hb4, h3.on hb4, h4.o, h4.i, ⟨d0x, d1x, dgx, dhx⟩, ⟨d0g, d1g, dgx.symm, dgh.symm⟩, ⟨d0h, d1h, dhx.symm, dgh⟩,
    fun k e => by have := b k e; omega, fun k e => by have := c0 k e; omega, fun k e => by have := c1 k e; omega⟩
theorem S5.on (h : S5 w0 w b0 bx bg v0 v1 vx vg vh n0 n1 nx ng nh xs0 xs1 xsx xsg xsh) (hb : Below w.heap.size w w') : S5 w0 w' b0 bx bg v0 v1 vx vg vh n0 n1 nx ng nh xs0 xs1 xsx xsg xsh :=
  ⟨Below.via hb h.bel, h.s.on hb, h.t.on hb, h.x.on hb, h.g.on hb, h.h.on hb, h.dx, h.dg, h.dh, h.lx, h.lg, h.lh⟩
theorem far_d {n base : Nat} {E : TypeId} {v u : Value} {xs : List Value} (h : OwnG w base E v n xs) (hg : w.grownBy w' u.ownBlock) (d : D v u) : OwnG w' base E v n xs := far_of h hg d
theorem S5.markX (h : S5 w0 w b0 bx bg v0 v1 vx vg vh n0 n1 nx ng nh xs0 xs1 xsx xsg xsh) (hx : OwnG w' bx 60 vx nx xs') (hg : w.grownBy w' vx.ownBlock) : S5 w0 w' b0 bx bg v0 v1 vx vg vh n0 n1 nx ng nh xs0 xs1 xs' xsg xsh :=
  ⟨h.bel.grown hg h.bel.size h.lx, far_d h.s hg h.dx.1, far_d h.t hg h.dx.2.1, hx, far_d h.g hg h.dx.2.2.1, far_d h.h hg h.dx.2.2.2, h.dx, h.dg, h.dh, h.lx, h.lg, h.lh⟩
theorem S5.markG (h : S5 w0 w b0 bx bg v0 v1 vx vg vh n0 n1 nx ng nh xs0 xs1 xsx xsg xsh) (hx : OwnG w' bg 60 vg ng xs') (hg : w.grownBy w' vg.ownBlock) : S5 w0 w' b0 bx bg v0 v1 vx vg vh n0 n1 nx ng nh xs0 xs1 xsx xs' xsh :=
  ⟨h.bel.grown hg h.bel.size h.lg, far_d h.s hg h.dg.1, far_d h.t hg h.dg.2.1, far_d h.x hg h.dg.2.2.1, hx, far_d h.h hg h.dg.2.2.2, h.dx, h.dg, h.dh, h.lx, h.lg, h.lh⟩
theorem S5.markH (h : S5 w0 w b0 bx bg v0 v1 vx vg vh n0 n1 nx ng nh xs0 xs1 xsx xsg xsh) (hx : OwnG w' bg 3 vh nh xs') (hg : w.grownBy w' vh.ownBlock) : S5 w0 w' b0 bx bg v0 v1 vx vg vh n0 n1 nx ng nh xs0 xs1 xsx xsg xs' :=
  ⟨h.bel.grown hg h.bel.size h.lh, far_d h.s hg h.dh.1, far_d h.t hg h.dh.2.1, far_d h.x hg h.dh.2.2.1, far_d h.g hg h.dh.2.2.2, hx, h.dx, h.dg, h.dh, h.lx, h.lg, h.lh⟩
end
set_option maxRecDepth 100000 in
set_option maxHeartbeats 4000000 in
theorem walk (A : Option Addr) (c : Nat) (l : List O3) (skip : Bool) (w : World) (hl : l.length ≤ maxLen) (hR : RdO w w.heap.size A l) :
    Calls Try.prog 4 #[.slice A l.length c, .bool skip] w fun e w' => e = .returned (.bool true) ∧ Below w.heap.size w w' := by
  have HM := Lib.hid hl; clear hl
  by_cases hbig : (1048576 : Int) < l.length
  · go_enter Try.func4, Try.ntmps4
    go_wp2_with (go_at_call 16; refine (laws_szOpS_any _ _ _ _ _ HM.out (by omega) (by omega)).mono ?_; rintro e w' ⟨rfl, rfl⟩; rw [if_pos hbig])
    go_ret
    exact ⟨rfl, Below.refl _ _⟩
  · have hL : l.length ≤ 1048576 := by omega
    have HF := Lib.hid (rsD_len l skip hL)
    have HG := Lib.hid (rsX_len l skip hL)
    have HL := Lib.hid hL
    have HR := Lib.hid hR; clear hR
    obtain ⟨dl, hdl⟩ : ∃ dl, dl = rsD l skip := ⟨_, rfl⟩
    obtain ⟨xl, hxl⟩ : ∃ xl, xl = rsX l skip := ⟨_, rfl⟩
    rw [← hdl] at HF
    rw [← hxl] at HG
    have HDL := Lib.hid hdl
    have HXL := Lib.hid hxl
    clear hdl hxl
    go_enter Try.func4, Try.ntmps4
    go_wp2_with fail
    refine (laws_szOpS_any _ _ _ _ _ HM.out (by omega) (by omega)).mono ?_
    rintro e w' ⟨rfl, rfl⟩
    rw [if_neg (by have := HL.out; omega)]
    clear hbig
    go_wp2_with fail
    refine (laws_toOpS_any _ _ _ _ HL.out HR.out).mono ?_
    rintro e w1 ⟨⟨g1, rfl, hO1⟩, hb1⟩
    have O1 := Lib.hid hO1; have b1 := Lib.hid hb1; clear hO1 hb1
    go_wp2_with fail
    refine (spec_RunStamps_any _ _ l skip _ HL.out O1.out.rd).mono ?_
    rintro e w2 ⟨⟨v0, v1, rfl, hP⟩, hb⟩
    rw [← HDL.out, ← HXL.out] at hP
    obtain ⟨A0, c0, rfl, _⟩ := hP.o.reads
    obtain ⟨A1, c1, rfl, _⟩ := hP.i.reads
    have P2 := Lib.hid hP; have b2 := Lib.hid (Below.via hb b1.out); clear hP hb O1 b1
    go_wp2_with fail
    refine (laws_toOpS_any _ _ _ _ HL.out (HR.out.on b2.out)).mono ?_
    rintro e w3 ⟨⟨g3, rfl, hO3⟩, hb3⟩
    have O3 := Lib.hid hO3; have b3 := Lib.hid hb3; clear hO3 hb3
    go_wp2_with fail
    refine (impl_RunStamps_any _ _ l skip _ HL.out (Nat.le_refl _) O3.out.rd).mono ?_
    rintro e w4 ⟨⟨v4, v5, rfl, hP⟩, hb⟩
    rw [← HDL.out, ← HXL.out] at hP
    obtain ⟨A4, c4, rfl, _⟩ := hP.o.reads
    obtain ⟨A5, c5, rfl, _⟩ := hP.i.reads
    have HS := Lib.hid (S5.start b2.out P2.out b3.out O3.out hb hP); clear hP hb P2 b2 O3 b3
    go_wp2_with fail
    refine (laws_eqOpS_any _ _ _ _ _ _ (by have := HF.out; unfold maxLen; omega) (OwnO.rd (show OwnO _ _ _ _ _ from HS.out.g)) (OwnO.rd (show OwnO _ _ _ _ _ from HS.out.s))).mono ?_
    rintro e w5 ⟨rfl, hb⟩
    have HS' := Lib.hid (HS.out.on hb); clear hb HS; have HS := HS'; clear HS'
    go_wp2_with fail
    refine (laws_eqIntS_any _ _ _ _ _ _ (by have := HG.out; unfold maxLen; omega) (OwnI.rd (show OwnI _ _ _ _ _ from HS.out.h)) (OwnI.rd (show OwnI _ _ _ _ _ from HS.out.t))).mono ?_
    rintro e w5 ⟨rfl, hb⟩
    have HS' := Lib.hid (HS.out.on hb); clear hb HS; have HS := HS'; clear HS'
    go_wp2_with fail
    refine (laws_toOpS_any _ _ _ _ HL.out (HR.out.on HS.out.bel)).mono ?_
    rintro e w6 ⟨⟨g6, rfl, hO6⟩, hb⟩
    have O6 := Lib.hid hO6; clear hO6
    have HS' := Lib.hid (HS.out.on hb); clear hb HS; have HS := HS'; clear HS'
    go_wp2_with fail
    refine (laws_eqOpS_any _ _ _ _ _ _ HM.out (OwnO.rd (show OwnO _ _ _ _ _ from HS.out.x)) O6.out.rd).mono ?_
    rintro e w7 ⟨rfl, hb⟩
    clear O6
    have HS' := Lib.hid (HS.out.on hb); clear hb HS; have HS := HS'; clear HS'
    go_wp2_with fail
    refine (laws_markOpS_any _ _ _ _ _ _ HL.out (by omega) HS.out.x).mono ?_
    rintro e w8 ⟨rfl, hO, hg⟩
    unfold OwnO at hO; rw [markL_len] at hO
    have HS' := Lib.hid (HS.out.markX hO hg); clear hO hg HS; have HS := HS'; clear HS'
    go_wp2_with fail
    refine (laws_eqOpS_any _ _ _ _ _ _ (by have := HF.out; unfold maxLen; omega) (OwnO.rd (show OwnO _ _ _ _ _ from HS.out.g)) (OwnO.rd (show OwnO _ _ _ _ _ from HS.out.s))).mono ?_
    rintro e w5 ⟨rfl, hb⟩
    have HS' := Lib.hid (HS.out.on hb); clear hb HS; have HS := HS'; clear HS'
    go_wp2_with fail
    refine (laws_eqIntS_any _ _ _ _ _ _ (by have := HG.out; unfold maxLen; omega) (OwnI.rd (show OwnI _ _ _ _ _ from HS.out.h)) (OwnI.rd (show OwnI _ _ _ _ _ from HS.out.t))).mono ?_
    rintro e w5 ⟨rfl, hb⟩
    have HS' := Lib.hid (HS.out.on hb); clear hb HS; have HS := HS'; clear HS'
    go_wp2_with fail
    refine (laws_markOpS_any _ _ _ _ _ _ HF.out (by omega) HS.out.g).mono ?_
    rintro e w10 ⟨rfl, hO, hg⟩
    unfold OwnO at hO; rw [markL_len] at hO
    have HS' := Lib.hid (HS.out.markG hO hg); clear hO hg HS; have HS := HS'; clear HS'
    have h31 : (0 : Int) ≤ 1 + 3 * (dl.length : Int) ∧ 1 + 3 * (dl.length : Int) ≤ 4294967296 := by have := HF.out; omega
    have H31 := Lib.hid h31; clear h31
    go_wp2_with fail
    refine (laws_markIntS_any _ _ _ _ _ _ HG.out H31.out HS.out.h).mono ?_
    rintro e w10 ⟨rfl, hO, hg⟩
    unfold OwnI at hO; rw [markN_len] at hO
    have HS' := Lib.hid (HS.out.markH hO hg); clear hO hg HS; have HS := HS'; clear HS'
    go_wp2_with fail
    refine (laws_heldOpS_any _ _ _ _ _ HF.out (by omega) (OwnO.rd (l := markL 1 dl.length) (show OwnO _ _ _ _ _ by unfold OwnO; rw [markL_len]; exact HS.out.g))).mono ?_
    rintro e w' ⟨rfl, rfl⟩
    have q0 := H31.out.1
    go_wp2_with fail
    refine (laws_heldIntS_any _ _ _ _ _ HG.out H31.out (OwnI.rd (l := markN (1 + 3 * (dl.length : Int)) xl.length) (show OwnI _ _ _ _ _ by unfold OwnI; rw [markN_len]; exact HS.out.h))).mono ?_
    rintro e w' ⟨rfl, rfl⟩
    have q1 : (0 : Int) ≤ 1 + 3 * (dl.length : Int) + (xl.length : Int) := by omega
    go_wp2_with fail
    refine (laws_toOpS_any _ _ _ _ HL.out (HR.out.on HS.out.bel)).mono ?_
    rintro e w11 ⟨⟨g11, rfl, hO11⟩, hb⟩
    have O11 := Lib.hid hO11; clear hO11
    have HS' := Lib.hid (HS.out.on hb); clear hb HS; have HS := HS'; clear HS'
    go_wp2_with fail
    refine (impl_RunStamps_any _ _ l skip _ HL.out (Nat.le_refl _) O11.out.rd).mono ?_
    rintro e w12 ⟨⟨v12, v13, rfl, hP⟩, hb⟩
    rw [← HDL.out, ← HXL.out] at hP
    obtain ⟨A12, c12, rfl, _⟩ := hP.o.reads
    obtain ⟨A13, c13, rfl, _⟩ := hP.i.reads
    have P12 := Lib.hid hP; clear hP O11
    have HS' := Lib.hid (HS.out.on hb); clear hb HS; have HS := HS'; clear HS'
    have I12 := Lib.hid P12.out.i
    go_wp2_with fail
    refine (laws_eqOpS_any _ _ _ _ _ _ (by have := HF.out; unfold maxLen; omega) P12.out.o.rd (OwnO.rd (show OwnO _ _ _ _ _ from HS.out.s))).mono ?_
    rintro e w13 ⟨rfl, hb⟩
    have I13 := Lib.hid (I12.out.on hb)
    clear P12 I12
    have HS' := Lib.hid (HS.out.on hb); clear hb HS; have HS := HS'; clear HS'
    go_wp2_with fail
    refine (laws_eqIntS_any _ _ _ _ _ _ (by have := HG.out; unfold maxLen; omega) I13.out.rd (OwnI.rd (show OwnI _ _ _ _ _ from HS.out.t))).mono ?_
    rintro e w13 ⟨rfl, hb⟩
    clear I13
    have HS' := Lib.hid (HS.out.on hb); clear hb HS; have HS := HS'; clear HS'
    go_wp2_with fail
    refine (laws_heldOpS_any _ _ _ _ _ HF.out (by omega) (OwnO.rd (l := markL 1 dl.length) (show OwnO _ _ _ _ _ by unfold OwnO; rw [markL_len]; exact HS.out.g))).mono ?_
    rintro e w' ⟨rfl, rfl⟩
    go_wp2_with fail
    refine (laws_heldIntS_any _ _ _ _ _ HG.out H31.out (OwnI.rd (l := markN (1 + 3 * (dl.length : Int)) xl.length) (show OwnI _ _ _ _ _ by unfold OwnI; rw [markN_len]; exact HS.out.h))).mono ?_
    rintro e w' ⟨rfl, rfl⟩
    go_wp2
    go_ret
    exact ⟨rfl, HS.out.bel⟩
theorem own : ownKnob Try.prog.godebug = none := by kernel_rfl
theorem laidOut : laidOutB Try.prog = true := by kernel_rfl
theorem cells62 : Try.prog.cellsOf 62 = 3 := by kernel_rfl
set_option maxRecDepth 100000 in
theorem lifted (os : Os) (started : os.Started) (H : Type) (enc : TypeId × Value → H) :
    ReturnsInHanded {} Try.checked os 4 .any (Rows.fnExactRunStampsSpec.pre6 enc Try.prog Try.f4 Rows.fnExactRunStampsRow.domain false) (Rows.fnExactRunStampsSpec.post enc Try.prog Try.f4 false true false false) := by
  refine returnsInHanded_of_change (C := Try.checked) own started (by kernel_rfl) Try.func4
    (ChangeSpec.witness6 (enc := enc) (C := Try.checked) false ⟨#[], #[.slice none 0 0, .bool false], []⟩ 8 (by kernel_rfl) (by kernel_rfl) (by kernel_rfl) (by kernel_rfl)) ?_
  intro W base args ds gs before hval0 hW hcnd _
  have hval : ∀ (j : Nat) t v, Try.f4.params[j]? = some t → args[j]? = some v → Value.okWide Try.prog W .any base t v := hval0
  have hW' := hW
  obtain ⟨p, q, hA0, hV, rfl, hfz, hnd⟩ := hW
  have hA : DataW.TrodAll enc Try.prog W 0 (fun _ => true) true Try.f4.params.toList args.toList ds p := hA0
  rw [Try.params4] at hA hval
  obtain ⟨v0, vs0, d0, ds0, p0, q0, hargs, rfl, rfl, h0, r0⟩ := trodAll_cons hA
  obtain ⟨v1, vs1, d1, ds1, p1, q1, rfl, rfl, rfl, h1, r1⟩ := trodAll_cons r0
  obtain ⟨rfl, rfl, rfl⟩ := trodAll_nil r1
  obtain rfl : args = #[v0, v1] := by cases args; simp_all
  obtain ⟨rfl, rfl⟩ := trodVars_none hV
  have k0 := h0
  have lt0 : ∀ x ∈ p0, x.block < W.heap.size := by obtain ⟨m, hm⟩ := k0; exact DataW.trod_lt m _ _ _ hm
  obtain ⟨A0, c0, l0, rfl, hl0, hR0⟩ := open_ops Try.underlying33 Try.underlying62 (by kernel_rfl) cells62 Try.underlying3 Try.underlying3 Try.underlying3 (hval 0 33 v0 rfl rfl) h0
  have k1 := h1
  have lt1 : ∀ x ∈ p1, x.block < W.heap.size := by obtain ⟨m, hm⟩ := k1; exact DataW.trod_lt m _ _ _ hm
  obtain ⟨b1, rfl, rfl, rfl⟩ := open_bool Try.underlying4 (hval 1 4 v1 rfl rfl) h1
  clear hA0 hval0
  refine (walk A0 c0 l0 b1 W hl0 hR0).mono fun e W' ⟨he, bel⟩ => ?_
  subst he
  exact ⟨_, rfl, _, _, _, [], _, [], hW', trodAll_mk1 (shut_bool Try.underlying4 _), (trodAll_cons_mk (Below.trod laidOut (by kernel_rfl) (of_decide_eq_true (by kernel_rfl)) k0 bel lt0) (trodAll_cons_mk (Below.trod laidOut (by kernel_rfl) (of_decide_eq_true (by kernel_rfl)) k1 bel lt1) trodAll_mk0)), rfl, bel.frame _, fun h => by cases h⟩
theorem holds : Rows.FnExactRunStampsSaid :=
  OpenClaim.holds_of_wide 4 Try.f4 rfl rfl rfl rfl rfl rfl rfl ⟨rfl, rfl, rfl, rfl, rfl⟩ rfl rfl rfl rfl rfl (by kernel_rfl) Try.func4 (by kernel_rfl)
    (of_decide_eq_true (by kernel_rfl)) (by unfold Func.isWrapper; rw [if_neg (of_decide_eq_false (by kernel_rfl))]; exact ⟨rfl, rfl⟩)
    (fun os started H enc _ => lifted os started H enc)
#print axioms holds
end Go.Proofs.Ytejipiadapggmaa.erunStamps
