/- The law FnSwapAt answers true: an exchange is undone by another one, and keeps the order of conflicts. No condition. -/
import Derived.Test.YtaflkbemecjcpaaRows
import Derived.Test.YtaflkbemecjcpaaSome
import Derived.Test.YtaflkbemecjcpaaPl
import Derived.Test.YtaflkbemecjcpaaLawsD
import Derived.Test.YtaflkbemecjcpaaSwM
import Derived.Test.YtaflkbemecjcpaaGrI
import Derived.Test.YtaflkbemecjcpaaSmI
namespace Go.Proofs.Ytaflkbemecjcpaa.dswapAt
set_option linter.unusedSimpArgs false
set_option linter.unusedVariables false
open Go.ChangeShapes Go.WideShapes Go.ChangeAt Go.RowKit
set_option maxRecDepth 100000 in
set_option maxHeartbeats 1000000 in
theorem DrawSwapAt_any (A : Option Addr) (c n : Nat) (w : World) (hc : n ≤ c) (hl : n ≤ maxLen) (hR : RdB w w.heap.size A n) :
    Calls Try.prog 27 #[.slice A n c] w fun e w' => (∃ A' c' l i, e = .returned (.tuple #[.slice A' l.length c', .int .i64 i]) ∧ l.length ≤ 16 ∧ l.length ≤ c' ∧ RdO w' w'.heap.size A' l) ∧ Below w.heap.size w w' := by
  go_enter Try.func27, Try.ntmps27
  go_wp2_with fail
  refine (newReader_any A c n _ hc hl hR).mono ?_
  rintro e w1 ⟨⟨rfl, hr1⟩, hb1⟩
  go_wp2_with fail
  refine (someSchedule_any w.heap.size 0 _ (by omega) hr1).mono ?_
  rintro e w2 ⟨⟨A', c', l, P', rfl, hO, hl', hr2, hP2⟩, hg2⟩
  have hz1 := hr1.lt
  have B2 := hb1.grown hg2 hb1.size (fun k hk => by simp at hk; omega)
  clear hb1 hg2
  go_wp2_with fail
  refine (pick_any w.heap.size P' l.length _ (by omega) (by omega) hr2).mono ?_
  rintro e w3 ⟨⟨x1, rfl, _, _⟩, hr3, hg3⟩
  have O3 := OwnO.gr hO hg3 hz1
  have B3 := B2.grown hg3 B2.size (fun k hk => by simp at hk; omega)
  clear hO B2 hg3
  go_wp2_with fail
  refine (pick_any w.heap.size (P' + 1) l.length _ (by omega) (by omega) hr3).mono ?_
  rintro e w4 ⟨⟨x2, rfl, _, _⟩, hr4, hg4⟩
  have O4 := OwnO.gr O3 hg4 hz1
  have B4 := B3.grown hg4 B3.size (fun k hk => by simp at hk; omega)
  clear O3 B3 hg4
  go_wp2_with fail
  refine (pick_any w.heap.size (P' + 1 + 1) l.length _ (by omega) (by omega) hr4).mono ?_
  rintro e w5 ⟨⟨x3, rfl, _, _⟩, hr5, hg5⟩
  have O5 := OwnO.gr O4 hg5 hz1
  have B5 := B4.grown hg5 B4.size (fun k hk => by simp at hk; omega)
  clear O4 B4 hg5
  go_wp2_with fail
  refine (one_any w.heap.size (P' + 1 + 1 + 1) _ _ [x1, x2, x3, (l.length : Int) - 1, -1] _ (by omega) (by simp) (by simp) (hr5.al _) (lit_at _ _ _ (by simp)) (by rintro b off ⟨⟩; have := hr5.lt; simp; omega)).mono ?_
  rintro e w6 ⟨⟨t, rfl, _⟩, _, hg6⟩
  go_wp2
  go_ret2
  have hO3 := OwnO.gr (O5.alloc (.cells (cellsI [x1, x2, x3, (l.length : Int) - 1, -1]).toArray 3)) hg6 hz1
  exact ⟨⟨A', c', l, t, rfl, hl', hO3.cap, hO3.rd⟩, (Below.al B5 _).grown hg6 (Below.al B5 _).size (fun k hk => by simp at hk; omega)⟩
set_option maxRecDepth 100000 in
set_option maxHeartbeats 4000000 in
theorem walk (A : Option Addr) (c n : Nat) (w : World) (hc : n ≤ c) (hl : n ≤ maxLen) (hR : RdB w w.heap.size A n) :
    Calls Try.prog 6 #[.slice A n c] w fun e w' => e = .returned (.bool true) ∧ Below w.heap.size w w' := by
  have HL := Lib.hid hl
  unfold maxLen at hl
  by_cases hbig : (1048576 : Int) < n
  · go_enter Try.func6, Try.ntmps6
    go_wp2
    go_ret
    exact ⟨rfl, Below.refl _ _⟩
  · go_enter Try.func6, Try.ntmps6
    go_wp2_with fail
    refine (DrawSwapAt_any A c n _ hc HL.out hR).mono ?_
    rintro e w1 ⟨⟨A1, c1, l, i, rfl, hl1, hc1, hR1⟩, hb1⟩
    have HM := Lib.hid (show l.length ≤ maxLen by unfold maxLen; omega)
    have HR := Lib.hid hR1; clear hR1
    have HC := Lib.hid hc1; clear hc1
    have hcl := swapV_len l i (by omega)
    go_wp2_with fail
    refine (impl_SwapAt_any _ _ _ i _ (by omega) HC.out HR.out).mono ?_
    rintro e w2 ⟨⟨v2, rfl, hO2⟩, hb2⟩
    have R2 := Lib.hid (HR.out.on hb2)
    obtain ⟨A2, c2, rfl, ⟨hc2, hm2⟩, _, _⟩ := hO2.reads
    go_wp2_with fail
    refine (spec_SwapAt_any _ _ _ i _ (by omega) HC.out R2.out).mono ?_
    rintro e w3 ⟨⟨v3, rfl, hO3⟩, hb3⟩
    obtain ⟨A3, c3, rfl, _, hR3', _⟩ := hO3.reads
    have R3 := Lib.hid (R2.out.on hb3)
    have O2 := Lib.hid (OwnO.on hO2 hb3)
    have B3 := Lib.hid (show Below w.heap.size w w3 by (repeat' (first | (with_reducible exact Below.refl _ _) | (with_reducible assumption) | (with_reducible refine Below.al ?_ _) | (with_reducible refine Below.drew ?_) | (with_reducible refine Below.drN ?_ _) | (with_reducible refine Below.via (by with_reducible assumption) ?_) | (with_reducible refine Below.setc ?_ ?_ _) | (with_reducible exact Nat.le_refl _) | (simp; done) | (simp; omega))))
    clear hb1 hb2 hb3 hO2 hO3
    go_wp2_with fail
    refine (equalOps_any A2 A3 c2 c3 (swapV l i) _ hcl O2.out.rd hR3').mono ?_
    rintro e w4 ⟨rfl, hb4⟩
    have B4 := Lib.hid (show Below w.heap.size w w4 by have h3 := B3.out; (repeat' (first | (with_reducible exact Below.refl _ _) | (with_reducible assumption) | (with_reducible refine Below.al ?_ _) | (with_reducible refine Below.drew ?_) | (with_reducible refine Below.drN ?_ _) | (with_reducible refine Below.via (by with_reducible assumption) ?_) | (with_reducible refine Below.setc ?_ ?_ _) | (with_reducible exact Nat.le_refl _) | (simp; done) | (simp; omega))))
    have R4 := Lib.hid (R3.out.on hb4)
    have O4 := Lib.hid (OwnO.on O2.out hb4)
    have X4 := Lib.hid (RdO.on hR3' hb4)
    clear hb4 hR3' O2 R3 B3
    cases hok : swapOk l i
    · go_wp2_with fail
      refine (equalOps_any A2 A3 c2 c3 (swapV l i) _ hcl O4.out.rd X4.out).mono ?_
      rintro e w5 ⟨rfl, hb5⟩
      have h4 := B4.out
      go_wp2
      go_ret
      exact ⟨rfl, by (repeat' (first | (with_reducible exact Below.refl _ _) | (with_reducible assumption) | (with_reducible refine Below.al ?_ _) | (with_reducible refine Below.drew ?_) | (with_reducible refine Below.drN ?_ _) | (with_reducible refine Below.via (by with_reducible assumption) ?_) | (with_reducible refine Below.setc ?_ ?_ _) | (with_reducible exact Nat.le_refl _) | (simp; done) | (simp; omega)))⟩
    · have hP : SwapP l i := tt_eq.1 hok
      have hsv : swapV l i = swapL l i.toNat := by unfold swapV; rw [hok]; rfl
      obtain ⟨hP2, hback, hsame, hgra⟩ := swap_all hP
      rw [← hsv] at hP2 hback hsame hgra
      obtain ⟨L, hL⟩ : ∃ L, L = swapV l i := ⟨_, rfl⟩
      rw [← hL] at hP2 hback hsame hgra hcl hc2 O4 X4 ⊢
      have HOK := Lib.hid (show swapOk L i = true from tt_true hP2)
      have HSV := Lib.hid (show swapV L i = l by unfold swapV; rw [HOK.out, if_pos rfl]; exact hback)
      have HSM := Lib.hid hsame
      have HGR := Lib.hid hgra
      have hgl := graV_len l (by omega)
      clear hP hP2 hback hsame hgra hsv hL X4
      go_wp2_with fail
      refine (impl_SwapAt_any _ _ L i _ hcl hc2 O4.out.rd).mono ?_
      rintro e w5 ⟨⟨v5, rfl, hO5⟩, hb5⟩
      rw [HSV.out] at hO5
      rw [HOK.out]
      obtain ⟨A5, c5, rfl, _, hR5, _⟩ := hO5.reads
      have B5 := Lib.hid (show Below w.heap.size w w5 by have h4 := B4.out; (repeat' (first | (with_reducible exact Below.refl _ _) | (with_reducible assumption) | (with_reducible refine Below.al ?_ _) | (with_reducible refine Below.drew ?_) | (with_reducible refine Below.drN ?_ _) | (with_reducible refine Below.via (by with_reducible assumption) ?_) | (with_reducible refine Below.setc ?_ ?_ _) | (with_reducible exact Nat.le_refl _) | (simp; done) | (simp; omega))))
      have R5 := Lib.hid (R4.out.on hb5)
      have O5 := Lib.hid (OwnO.on O4.out hb5)
      clear hb5 R4 O4 B4 hO5
      go_wp2_with fail
      refine (equalOps_any A5 A1 c5 c1 l _ (by omega) hR5 R5.out).mono ?_
      rintro e w6 ⟨rfl, hb6⟩
      have B6 := Lib.hid (show Below w.heap.size w w6 by have h4 := B5.out; (repeat' (first | (with_reducible exact Below.refl _ _) | (with_reducible assumption) | (with_reducible refine Below.al ?_ _) | (with_reducible refine Below.drew ?_) | (with_reducible refine Below.drN ?_ _) | (with_reducible refine Below.via (by with_reducible assumption) ?_) | (with_reducible refine Below.setc ?_ ?_ _) | (with_reducible exact Nat.le_refl _) | (simp; done) | (simp; omega))))
      have R6 := Lib.hid (R5.out.on hb6)
      have O6 := Lib.hid (OwnO.on O5.out hb6)
      clear hb6 hR5 R5 O5 B5
      go_wp2_with fail
      refine (impl_IsSame_any _ _ _ _ l L _ (by omega) hcl HC.out hc2 R6.out O6.out.rd).mono ?_
      rintro e w7 ⟨rfl, hb7⟩
      rw [HSM.out]
      have B7 := Lib.hid (show Below w.heap.size w w7 by have h4 := B6.out; (repeat' (first | (with_reducible exact Below.refl _ _) | (with_reducible assumption) | (with_reducible refine Below.al ?_ _) | (with_reducible refine Below.drew ?_) | (with_reducible refine Below.drN ?_ _) | (with_reducible refine Below.via (by with_reducible assumption) ?_) | (with_reducible refine Below.setc ?_ ?_ _) | (with_reducible exact Nat.le_refl _) | (simp; done) | (simp; omega))))
      have R7 := Lib.hid (R6.out.on hb7)
      have O7 := Lib.hid (OwnO.on O6.out hb7)
      clear hb7 R6 O6 B6
      go_wp2_with fail
      refine (impl_GraphOf_any _ _ L _ hcl hc2 O7.out.rd).mono ?_
      rintro e w8 ⟨⟨v8, rfl, hO8⟩, hb8⟩
      rw [HGR.out] at hO8
      obtain ⟨A8, c8, rfl, _, hR8, _⟩ := hO8.reads
      have B8 := Lib.hid (show Below w.heap.size w w8 by have h4 := B7.out; (repeat' (first | (with_reducible exact Below.refl _ _) | (with_reducible assumption) | (with_reducible refine Below.al ?_ _) | (with_reducible refine Below.drew ?_) | (with_reducible refine Below.drN ?_ _) | (with_reducible refine Below.via (by with_reducible assumption) ?_) | (with_reducible refine Below.setc ?_ ?_ _) | (with_reducible exact Nat.le_refl _) | (simp; done) | (simp; omega))))
      have R8 := Lib.hid (R7.out.on hb8)
      clear hb8 R7 O7 B7
      go_wp2_with fail
      refine (impl_GraphOf_any _ _ l _ (by omega) HC.out R8.out).mono ?_
      rintro e w9 ⟨⟨v9, rfl, hO9⟩, hb9⟩
      obtain ⟨A9, c9, rfl, _, hR9, _⟩ := hO9.reads
      go_wp2_with fail
      refine (equalInts_any A8 A9 c8 c9 (graV l) _ hgl (hR8.on hb9) hR9).mono ?_
      rintro e w10 ⟨rfl, hb10⟩
      have h4 := B8.out
      go_wp2
      go_ret
      exact ⟨rfl, by (repeat' (first | (with_reducible exact Below.refl _ _) | (with_reducible assumption) | (with_reducible refine Below.al ?_ _) | (with_reducible refine Below.drew ?_) | (with_reducible refine Below.drN ?_ _) | (with_reducible refine Below.via (by with_reducible assumption) ?_) | (with_reducible refine Below.setc ?_ ?_ _) | (with_reducible exact Nat.le_refl _) | (simp; done) | (simp; omega)))⟩
theorem own : ownKnob Try.prog.godebug = none := by kernel_rfl
theorem laidOut : laidOutB Try.prog = true := by kernel_rfl
set_option maxRecDepth 100000 in
theorem lifted (os : Os) (started : os.Started) (H : Type) (enc : TypeId × Value → H) :
    ReturnsInHanded {} Try.checked os 6 .any (Rows.fnSwapAtSpec.pre6 enc Try.prog Try.f6 Rows.fnSwapAtRow.domain false) (Rows.fnSwapAtSpec.post enc Try.prog Try.f6 false true false false) := by
  refine returnsInHanded_of_change (C := Try.checked) own started (by kernel_rfl) Try.func6
    (ChangeSpec.witness6 (enc := enc) (C := Try.checked) false ⟨#[], #[.slice none 0 0], []⟩ 8 (by kernel_rfl) (by kernel_rfl) (by kernel_rfl) (by kernel_rfl)) ?_
  intro W base args ds gs before hval0 hW hcnd _
  have hval : ∀ (j : Nat) t v, Try.f6.params[j]? = some t → args[j]? = some v → Value.okWide Try.prog W .any base t v := hval0
  have hW' := hW
  obtain ⟨p, q, hA0, hV, rfl, hfz, hnd⟩ := hW
  have hA : DataW.TrodAll enc Try.prog W 0 (fun _ => true) true Try.f6.params.toList args.toList ds p := hA0
  rw [Try.params6] at hA hval
  obtain ⟨v0, vs0, d0, ds0, p0, q0, hargs, rfl, rfl, h0, r0⟩ := trodAll_cons hA
  obtain ⟨rfl, rfl, rfl⟩ := trodAll_nil r0
  obtain rfl : args = #[v0] := by cases args; simp_all
  obtain ⟨rfl, rfl⟩ := trodVars_none hV
  have k0 := h0
  have lt0 : ∀ x ∈ p0, x.block < W.heap.size := by obtain ⟨m, hm⟩ := k0; exact DataW.trod_lt m _ _ _ hm
  obtain ⟨A0, c0, n0, rfl, hc0, hl0, hR0⟩ := open_bytes Try.underlying33 Try.underlying5 (by kernel_rfl) (hval 0 33 v0 rfl rfl) h0
  clear hA0 hval0
  refine (walk A0 c0 n0 W hc0 hl0 hR0).mono fun e W' ⟨he, bel⟩ => ?_
  subst he
  exact ⟨_, rfl, _, _, _, [], _, [], hW', trodAll_mk1 (shut_bool Try.underlying4 _), (trodAll_cons_mk (Below.trod laidOut (by kernel_rfl) (of_decide_eq_true (by kernel_rfl)) k0 bel lt0) trodAll_mk0), rfl, bel.frame _, fun h => by cases h⟩
theorem holds : Rows.FnSwapAtSaid :=
  OpenClaim.holds_of_wide 6 Try.f6 rfl rfl rfl rfl rfl rfl rfl ⟨rfl, rfl, rfl, rfl, rfl⟩ rfl rfl rfl rfl rfl (by kernel_rfl) Try.func6 (by kernel_rfl)
    (of_decide_eq_true (by kernel_rfl)) (by unfold Func.isWrapper; rw [if_neg (of_decide_eq_false (by kernel_rfl))]; exact ⟨rfl, rfl⟩)
    (fun os started H enc _ => lifted os started H enc)
#print axioms holds
end Go.Proofs.Ytaflkbemecjcpaa.dswapAt
