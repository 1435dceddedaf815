/- The program's PointsOf. -/
import Derived.Test.YtejipiadapggmaaRev
import Derived.Test.YtejipiadapggmaaPtI
namespace Go.Proofs.Ytejipiadapggmaa
set_option linter.unusedSimpArgs false
set_option linter.unusedVariables false
open Go.RowKit Go.Shelf
attribute [local go_sem] Oper.semAt_some

theorem keepsOthers_of {W W' : World} (h : Below W.heap.size W W') : KeepsOthers W W' := ⟨h.size, fun k o hk _ => (h.block k (Array.getElem?_eq_some_iff.1 hk).1).trans hk⟩
theorem Boxed.on {W W' : World} {B : Nat} {t : TypeId} {v : Value} (h : Boxed W B t v) (hb : Below W.heap.size W W') : Boxed W' B t v := (hb.block B h.lt).trans h
theorem KpB.of {n₀ Bs : Nat} {W W' : World} (h : Below W.heap.size W W') (hn : n₀ ≤ W.heap.size) (hb : Bs < W.heap.size) : KpB n₀ Bs W W' := ⟨h.mono hn, h.block Bs hb⟩
theorem bx3_own {β : Type} (b : Nat) (E : TypeId) (x y z : Int) : Own (fun (_ : β) W => Bx3 W b E x y z) := fun s X Y row hs hg hrow =>
  (hg.block b (lt_of_block hs) (fun e' => by obtain ⟨o, ho, hc⟩ := hrow b e'.symm; rw [show X.heap[b]? = _ from hs] at ho; cases ho; cases hc)).trans hs

theorem row_others {W W' : World} {base size n : Nat} {e : TypeId} {v : Value} {xs : List Value} (hrow : W.ownsRow base e size v n xs) (hg : W.grownBy W' v.ownBlock) : KeepsOthers W W' :=
  KeepsOthers.of_grownBy hg fun j o ej hj => by
    rcases hrow.2 with ⟨rfl, _⟩ | ⟨g, cap, cur, rfl, _, hgb, _⟩
    · simp [Value.ownBlock] at ej
    · obtain rfl : g = j := by simpa [Value.ownBlock] using ej
      rw [hgb] at hj; cases hj; rfl
/-- What has been collected when these pairs have come. -/
def colP (pre : List (Int × O3)) : List Int := colF (pre.map (·.2))
theorem colP_snoc (pre : List (Int × O3)) (x : Int × O3) : colP (pre ++ [x]) = colS (colP pre) x.2 := by unfold colP; rw [List.map_append, List.map_cons, List.map_nil, colF_snoc]
theorem colP_le (pre : List (Int × O3)) : (colP pre).length ≤ pre.length := by have := colF_le (pre.map (·.2)); rw [List.length_map] at this; exact this
set_option maxRecDepth 100000 in
set_option maxHeartbeats 4000000 in
theorem impl_PointsOf_any (A : Option Addr) (c : Nat) (l : List O3) (w : World) (hl : l.length ≤ 1048576) (hR : RdO w w.heap.size A l) :
    Calls Try.prog 10 #[.slice A l.length c] w fun e w' => (∃ v, e = .returned v ∧ OwnI w' w.heap.size 3 v (ptV l)) ∧ Below w.heap.size w w' := by
  obtain ⟨i0, hi0, hz0, hz1, hz2⟩ := info_parts info_I
  have HM := Lib.hid (show l.length ≤ maxLen by unfold maxLen; omega)
  rcases Bool.eq_false_or_eq_true (stepsB l) with hv | hv
  all_goals have HV := Lib.hid hv; clear hv
  · have h40 : l.length ≤ 40 := by have h := HV.out; simp [stepsB] at h; exact h.2
    have H1 := Lib.hid (show i0.bytes * 4 ≤ 281474976710656 by rw [hz2]; omega)
    have H2 := Lib.hid (show 4 ≤ maxLen by unfold maxLen; omega)
    clear hl
    refine (callsIn_wide (n := 6)).1 ?_
    refine callsIn_of_wp_marks Try.func10 rfl trivial ?_ rfl
    simp only [Try.ntmps10, List.size_toArray, List.length_cons, List.length_nil, Nat.reduceAdd, Nat.reduceSub, Array.replicate_succ, Array.replicate_zero, List.push_toArray, List.append_toArray, List.nil_append, List.cons_append]
    gi_wp2_with (first
      | (refine ⟨trivial, ?_⟩; gi_at_call 31; refine (callsIn_wide.2 (impl_ValidSteps_any _ _ _ _ HM.out hR)).mono ?_; rintro e w1 ⟨rfl, hb1⟩; rw [HV.out]; have hsz1 := hb1.size)
      | (gi_at_make; refine wpListIn_make_own _ rfl _ _ 24 rfl w.heap.size 3 i0 _ 1 Try.underlying24 hi0 hz0 hz1 .i64 .i64 _ 4 rfl rfl rfl H1.out H2.out hsz1 ?_; intro w2 hO2 hg2)
      | (refine ⟨trivial, ?_⟩; gi_at_call 32; refine (Backward_in _ _ _ _ _).mono ?_; rintro e w' ⟨rfl, rfl⟩))
    have HRl := Lib.hid hR
    have bO := (Boxed.new w2 24 (.slice (some ⟨w1.heap.size, 0, none⟩) 0 4)).alloc (.cells #[.slice A l.length c] 26)
    have bS := Boxed.new (w2.alloc (.cells #[.slice (some ⟨w1.heap.size, 0, none⟩) 0 4] 24)) 26 (.slice A l.length c)
    have hrow0 := (hO2.alloc (.cells #[.slice (some ⟨w1.heap.size, 0, none⟩) 0 4] 24)).alloc (.cells #[.slice A l.length c] 26)
    have hB2 : Below w.heap.size w w2 := hb1.grown hg2 hsz1 (fun k e => by cases e)
    have hB0 := (hB2.alloc hB2.size (.cells #[.slice (some ⟨w1.heap.size, 0, none⟩) 0 4] 24)).alloc (by have := hB2.size; simp; omega) (.cells #[.slice A l.length c] 26)
    have hBo : w.heap.size ≤ w2.heap.size := hB2.size
    rw [World.size_alloc] at bS
    have hsz : ((w2.alloc (.cells #[.slice (some ⟨w1.heap.size, 0, none⟩) 0 4] 24)).alloc (.cells #[.slice A l.length c] 26)).heap.size = w2.heap.size + 2 := by simp
    obtain ⟨W0, hW0⟩ : ∃ W0, ((w2.alloc (.cells #[.slice (some ⟨w1.heap.size, 0, none⟩) 0 4] 24)).alloc (.cells #[.slice A l.length c] 26)) = W0 := ⟨_, rfl⟩
    rw [hW0] at bO bS hrow0 hB0 hsz ⊢
    clear hW0 hO2 hg2 hB2
    obtain ⟨Bo, hBoe⟩ : ∃ Bo, w2.heap.size = Bo := ⟨_, rfl⟩
    rw [hBoe] at bO bS hBo hsz ⊢
    clear hBoe
    refine wpIn_rangeFunc_ownH rfl (by omega) (gf := 60) (lb := #[.pointer (some ⟨Bo + 1, 0, none⟩)]) rfl trivial (enters_of Try.func60 (by kernel_rfl) rfl)
      (Backward_stops (6 - 1) (by omega) (Bo + 1) w.heap.size c A l HM.out W0 (by omega) bS (hR.below hB0 (Nat.le_refl _)))
      (fun h k => KpB.trans h k) (fun W l0 o o' h1 h2 h3 h4 => ⟨belowK_b (w := W0) (by omega) W l0 o o' h1 h2 h3 h4, World.putObj_heap_other (by omega)⟩) (Below.refl _ _) (fun _ => rfl)
      (fun pre W => ((∃ v, Boxed W Bo 24 v ∧ W.ownsRow w.heap.size 3 1 v (colP pre).length (cellsI (colP pre)) ∧ True) ∧ Boxed W (Bo + 1) 26 (.slice A l.length c)) ∧ Below w.heap.size w W)
      (fun _ _ _ => False)
      (OwnFrom.and (OwnFrom.and (Own.from (holdsRow_own w.heap.size Bo 24 3 1 (fun (pre : List (Int × O3)) => (colP pre).length) (fun (pre : List (Int × O3)) => cellsI (colP pre)) (fun _ _ => True)) _) (Own.from (boxed_own _ _ _) _)) (ownFrom_below (Nat.le_refl _) (by omega)))
      (fun _ _ _ _ _ hs _ _ => hs)
      ⟨⟨⟨_, bO, hrow0, trivial⟩, bS⟩, hB0⟩
      (fun x a' W => ∃ Bx, Bo + 1 < Bx ∧ Bx3 W Bx 49 x.2.tx x.2.kind x.2.item ∧ a' = { tmps := #[.slice A l.length c, undef, .slice none 0 0, .pointer (some ⟨Bo, 0, none⟩), undef, .pointer (some ⟨Bx, 0, none⟩), .slice A l.length c, .bool true, .bool false, .slice (some ⟨w1.heap.size, 0, none⟩) 0 4, .slice A l.length c, .func (.func 60) #[] #[.pointer (some ⟨Bo + 1, 0, none⟩)], .int .i64 x.1, .agg #[.int .i64 x.2.tx, .int .i64 x.2.kind, .int .i64 x.2.item], undef, undef, undef, undef, undef, undef, undef, undef, undef, undef, undef, undef, undef, undef, undef, undef, undef, undef], defers := [] })
      (fun x a' _ X Y row hs hg hr => by obtain ⟨Bx, h1, h2, h3⟩ := hs; exact ⟨Bx, h1, bx3_own Bx _ _ _ _ () X Y row h2 hg (fun r e => (hr r e).2), h3⟩)
      ?assign ?body ?done ?stop
    case assign =>
      rintro l0 pre x W K ⟨⟨⟨v, hv, hrow, _⟩, hS⟩, hB⟩ hK
      gi_wp2
      exact hK _ _ ((KeepsOthers.alloc _ _).from _) ⟨(Below.refl _ W).alloc hB.size _, Below.heap_alloc W _ _ hS.lt⟩ ⟨⟨⟨v, hv.alloc _, hrow.alloc _, trivial⟩, hS.alloc _⟩, hB.alloc hB.size _⟩ ⟨W.heap.size, hS.lt, Bx3.made W _ _ _ _, rfl⟩
    case body =>
      rintro l0 pre x a' W hl0 ⟨r, hr⟩ ⟨⟨⟨v, hv, hrow, _⟩, hS⟩, hB⟩ ⟨Bx, hBx, hX, rfl⟩ hlt
      obtain ⟨A', c', rfl, hc'⟩ := row_form hrow
      have hcl : (colP pre).length ≤ 40 := by have := colP_le pre; omega
      have hstep := colP_snoc pre x
      have HST := Lib.hid hstep; clear hstep
      obtain ⟨zs, hzs⟩ : ∃ zs, colP pre = zs := ⟨_, rfl⟩
      rw [hzs] at hv hrow hcl HST hc'
      clear hzs
      have hWs := hB.size
      obtain ⟨hx0, hx1, hx2, hx3, hx4⟩ := hX.at_
      cases ht : takesP x.2
      · have HT := Lib.hid ht; clear ht
        gi_wp2_with (refine ⟨trivial, ?_⟩; gi_at_call 33; refine (CallsIn.inRound l0 (callsIn_wide.2 (impl_takesP_any _ _ _ _))).mono ?_; rintro e w3 ⟨rfl, hb3⟩; rw [show takesP ⟨x.2.tx, x.2.kind, x.2.item⟩ = false from HT.out])
        refine ⟨trivial, ?_⟩
        gi_wp2
        have hno : colS zs x.2 = zs := by simp [colS, HT.out]
        have hS3 := Boxed.on hS hb3
        exact ⟨(keepsOthers_of hb3).from _, ⟨hb3.mono hWs, (show Boxed _ _ _ _ from hS3).trans (show Boxed _ _ _ _ from hS).symm⟩, ⟨⟨_, Boxed.on hv hb3, by rw [HST.out, hno]; exact row_kept hrow hb3.block, trivial⟩, hS3⟩, hB.trans (hb3.mono hWs)⟩
      · have HT := Lib.hid ht; clear ht
        have HLm := Lib.hid (show zs.length ≤ maxLen by unfold maxLen; omega)
        have hrd : RdI W W.heap.size A' zs := OwnI.rd (OwnG.of_row hrow)
        cases hcn : zs.contains x.2.tx
        all_goals have HC := Lib.hid hcn; clear hcn
        · gi_wp2_with (first
            | (refine ⟨trivial, ?_⟩; gi_at_call 33; refine (CallsIn.inRound l0 (callsIn_wide.2 (impl_takesP_any _ _ _ _))).mono ?_; rintro e w3 ⟨rfl, hb3⟩; rw [show takesP ⟨x.2.tx, x.2.kind, x.2.item⟩ = true from HT.out]; have hv3 := Boxed.on hv hb3; have hrow3 := row_kept hrow hb3.block; have hcO3 := hv3.cell; obtain ⟨hy0, hy1, hy2, hy3, hy4, hy5, hy6⟩ := (hX.be hb3).at_; have hWs3 := Nat.le_trans hWs hb3.size)
            | (refine ⟨trivial, ?_⟩; gi_at_call 34; refine (CallsIn.inRound l0 (callsIn_wide.2 (Contains_int_any _ _ zs _ _ HLm.out (hrd.on hb3)))).mono ?_; rintro e w4 ⟨rfl, rfl⟩; rw [HC.out])
            | (gi_at_builtin; refine wpListIn_append_own _ rfl _ _ 24 rfl w.heap.size 3 i0 (.int .i64 0) 1 8 Try.underlying24 hi0 hz0 hz1 hz2 rfl (by decide) _ _ _ rfl (hrow3.alloc _) ⟨w3.heap.size, 0, none⟩ 1 1 [.int .i64 x.2.tx] rfl rfl (cell_one_new _ _ _) (by simp [Value.oneCell']) (by unfold maxLen; omega) (by omega) (by simp; omega) ?_; intro v' w5 hown' hgrow _; obtain ⟨g', cap', rfl⟩ := ownsRow_succ hown'; obtain ⟨hv1, hv2, hr2, hk2, hb2⟩ := hv3.appended (by decide) hrow3 hWs3 hBo hown' hgrow; have hc1 := hv1.cell; have hf1 := hv1.frozen))
          have hS3 := Boxed.on hS hb3
          have hS5 := (hS3.alloc _).kept hgrow (hS3.not_row (by decide) hrow3)
          have hS6 := hS5.other (by omega : Bo + 1 ≠ Bo) (.slice (some ⟨g', 0, none⟩) (zs.length + 1) cap')
          have hyes : colS zs x.2 = zs ++ [x.2.tx] := by unfold colS; rw [HT.out, HC.out]; rfl
          exact ⟨((keepsOthers_of hb3).trans hk2).from _, ⟨(hb3.mono hWs).trans hb2, (show Boxed _ _ _ _ from hS6).trans (show Boxed _ _ _ _ from hS).symm⟩, ⟨⟨_, hv2, by rw [HST.out, hyes]; simpa [cellsI] using hr2, trivial⟩, hS6⟩, hB.trans ((hb3.mono hWs).trans hb2)⟩
        · gi_wp2_with (first
            | (refine ⟨trivial, ?_⟩; gi_at_call 33; refine (CallsIn.inRound l0 (callsIn_wide.2 (impl_takesP_any _ _ _ _))).mono ?_; rintro e w3 ⟨rfl, hb3⟩; rw [show takesP ⟨x.2.tx, x.2.kind, x.2.item⟩ = true from HT.out]; have hv3 := Boxed.on hv hb3; have hcO3 := hv3.cell; obtain ⟨hy0, hy1, hy2, hy3, hy4, hy5, hy6⟩ := (hX.be hb3).at_)
            | (refine ⟨trivial, ?_⟩; gi_at_call 34; refine (CallsIn.inRound l0 (callsIn_wide.2 (Contains_int_any _ _ zs _ _ HLm.out (hrd.on hb3)))).mono ?_; rintro e w4 ⟨rfl, rfl⟩; rw [HC.out]))
          have hno : colS zs x.2 = zs := by unfold colS; rw [HT.out, HC.out]; rfl
          have hS3 := Boxed.on hS hb3
          exact ⟨(keepsOthers_of hb3).from _, ⟨hb3.mono hWs, (show Boxed _ _ _ _ from hS3).trans (show Boxed _ _ _ _ from hS).symm⟩, ⟨⟨_, Boxed.on hv hb3, by rw [HST.out, hno]; exact row_kept hrow hb3.block, trivial⟩, hS3⟩, hB.trans (hb3.mono hWs)⟩
    case done =>
      rintro D ys W hD rfl ⟨⟨⟨v, hv, hrow, _⟩, hS⟩, hB⟩ hK
      obtain ⟨A', c', rfl, hc'⟩ := row_form hrow
      have hall : l.all stepB = true := by have h := HV.out; simp [stepsB] at h; simpa using h.1
      have hpt : (colP (upto (bk l) l.length)).reverse = ptV l := by unfold colP; rw [bk_all, col_pt l hall, ptV, if_pos HV.out]
      have hcl : (colP (upto (bk l) l.length)).length ≤ 4194304 := by have := colP_le (upto (bk l) l.length); rw [upto_length] at this; omega
      obtain ⟨zs, hzs⟩ : ∃ zs, colP (upto (bk l) l.length) = zs := ⟨_, rfl⟩
      rw [hzs] at hv hrow hcl hpt hc'
      have HPT := Lib.hid hpt
      clear hzs hpt hall
      have hcO := hv.cell
      gi_wp2_with (first
        | (refine ⟨trivial, ?_⟩; gi_at_call 35; refine (callsIn_wide.2 (Reverse_int_any w.heap.size _ _ _ zs _ rfl hcl hrow)).mono ?_; rintro e w7 ⟨rfl, hO7, hg7⟩; have hv7 := hv.kept hg7 (hv.not_row (by decide) hrow); have hcO7 := hv7.cell)
        | (refine ⟨trivial, ?_⟩; gi_at_call 36; refine (callsIn_wide.2 (Clip_int_any _ _ _ _ hc')).mono ?_; rintro e w8 ⟨rfl, rfl⟩))
      have hK7 := (row_others hrow hg7).same D _ hK rfl
      have hB7 : Below w.heap.size W w7 := (Below.refl _ _).grown hg7 hB.size (fun k e => (OwnG.own_lt (OwnG.of_row hrow) k e).1)
      refine ⟨by simp, .inl ⟨_, _, rfl, run_takeDeferred hK7, ?_⟩⟩
      refine ⟨_, results_tmp rfl _ _ _, ⟨_, rfl, ?_⟩, hB.trans (hB7.trans (belowK_b (w := W0) (by omega) w7 D _ _ hD hK7 rfl rfl))⟩
      rw [← HPT.out]
      exact (AppI.own (ownsRow_putObj hO7 _ hK7 rfl)).cut (by simp)
    case stop =>
      rintro D c pre W _ _ h _
      exact h.elim
  · have HL := Lib.hid hl
    go_enter Try.func10, Try.ntmps10
    go_wp2_with (go_at_call 31; refine (impl_ValidSteps_any _ _ _ _ HM.out hR).mono ?_; rintro e w1 ⟨rfl, hb1⟩; rw [HV.out])
    go_ret
    exact ⟨⟨_, rfl, by rw [ptV, if_neg (by rw [HV.out]; simp)]; exact OwnI.nil_⟩, by (repeat' (first | (with_reducible exact Below.refl _ _) | (with_reducible assumption) | (with_reducible refine Below.al ?_ _) | (with_reducible refine Below.drew ?_) | (with_reducible refine Below.drN ?_ _) | (with_reducible refine Below.via (by with_reducible assumption) ?_) | (with_reducible refine Below.setc ?_ ?_ _) | (with_reducible exact Nat.le_refl _) | (simp; done) | (simp; omega)))⟩
end Go.Proofs.Ytejipiadapggmaa
