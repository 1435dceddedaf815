/- RunStamps: the reference's walk. -/
import Derived.Test.YtejipiadapggmaaRsS
namespace Go.Proofs.Ytejipiadapggmaa
set_option linter.unusedSimpArgs false
set_option linter.unusedVariables false
open Go.RowKit

section
variable {l : List O3} {skip : Bool} {k : Nat} {done : List O3} {dead : List Int} {rd wr : Int → Int} {o : O3}
theorem rs_dead (hk : k < l.length) (h : rsTo l skip k = ⟨done, dead, rd, wr⟩) (ho : l[k] = o) (h1 : dead.contains o.tx = true) : rsTo l skip (k + 1) = ⟨done, dead, rd, wr⟩ := by
  rw [rsTo_succ hk, h, ho]; unfold rsStep; simp only [h1, if_true]
theorem rs_live (hk : k < l.length) (h : rsTo l skip k = ⟨done, dead, rd, wr⟩) (ho : l[k] = o) (h1 : dead.contains o.tx = false) {a : Int} (ha : a = (firstOf l o.tx : Nat)) {r : Int} (hr : rsOut skip rd wr o a = r) {rd' wr' : Int → Int} (hrd : rsRd skip rd wr o a = rd') (hwr : rsWr skip rd wr o a = wr') :
    rsTo l skip (k + 1) = ⟨if r = 0 then done ++ [o] else if r = 2 then done ++ [⟨o.tx, 3, 0⟩] else done, if r = 2 then dead ++ [o.tx] else dead, rd', wr'⟩ := by
  rw [rsTo_succ hk, h, ho]; unfold rsStep
  simp only [h1, Bool.false_eq_true, if_false, ← ha, hr, hrd, hwr]
end
set_option maxRecDepth 8192 in
set_option maxHeartbeats 4000000 in
theorem spec_runStamps_any (A : Option Addr) (c : Nat) (l : List O3) (skip : Bool) (w : World) (hl : l.length ≤ 12) (hv : ∀ o ∈ l, validB o = true) (hR : RdO w w.heap.size A l) :
    Calls Try.prog 39 #[.slice A l.length c, .bool skip] w fun e w' => (∃ v1 v2, e = .returned (.tuple #[v1, v2]) ∧ Two2 w' w.heap.size v1 v2 (rsTo l skip l.length).done (rsTo l skip l.length).dead []) ∧ Below w.heap.size w w' := by
  obtain ⟨i0, hi0, hz0, hz1, hz2⟩ := info_parts info_O
  obtain ⟨j0, hj0, hy0, hy1, hy2⟩ := info_parts info_I
  have HM := Lib.hid (show l.length ≤ maxLen by unfold maxLen; omega)
  have HV := Lib.hid hv; clear hv
  go_enter Try.func39, Try.ntmps39
  go_wp2_with fail
  obtain ⟨w0, hw0⟩ : ∃ w0, w0 = ((((w.alloc (Obj.cells #[] 60)).alloc (Obj.cells #[] 3)).alloc (Obj.cells #[.int .i64 (-1), .int .i64 (-1), .int .i64 (-1)] 3)).alloc (Obj.cells #[.int .i64 (-1), .int .i64 (-1), .int .i64 (-1)] 3)) := ⟨_, rfl⟩
  have hB0 : Below w.heap.size w w0 := by rw [hw0]; (repeat' (first | (with_reducible exact Below.refl _ _) | (with_reducible assumption) | (with_reducible refine Below.al ?_ _) | (with_reducible refine Below.drew ?_) | (with_reducible refine Below.drN ?_ _) | (with_reducible refine Below.via (by with_reducible assumption) ?_) | (with_reducible refine Below.setc ?_ ?_ _) | (with_reducible exact Nat.le_refl _) | (simp; done) | (simp; omega)))
  have hT0 : Two2 w0 w.heap.size (.slice (some ⟨w.heap.size, 0, none⟩) 0 0) (.slice (some ⟨w.heap.size + 1, 0, none⟩) 0 0) [] [] [w.heap.size + 1 + 1, w.heap.size + 1 + 1 + 1] := by
    rw [hw0]
    refine ⟨(((AppO.made (Nat.le_refl _) _ _ (by simp [maxLen]) rfl).alloc _).alloc _).alloc _, ?_, ?_, ?_⟩
    · have h := ((AppI.made (w := w.alloc (Obj.cells #[] 60)) (base := w.heap.size) (E := 3) (by simp) #[] 0 (by simp [maxLen]) rfl).alloc (Obj.cells #[.int .i64 (-1), .int .i64 (-1), .int .i64 (-1)] 3)).alloc (Obj.cells #[.int .i64 (-1), .int .i64 (-1), .int .i64 (-1)] 3)
      rw [World.size_alloc] at h
      exact h
    · intro k e1 e2
      simp [Value.ownBlock] at e1 e2
      omega
    · intro b m
      simp at m
      rcases m with rfl | rfl <;> refine ⟨by omega, by simp, by simp [Value.ownBlock]; omega, by simp [Value.ownBlock]⟩
  have hM1 : Tb3 w0 (w.heap.size + 1 + 1) (fun _ => -1) := by
    rw [hw0]
    have h := (Bx3.made ((w.alloc (Obj.cells #[] 60)).alloc (Obj.cells #[] 3)) 3 (-1) (-1) (-1)).al (Obj.cells #[.int .i64 (-1), .int .i64 (-1), .int .i64 (-1)] 3)
    rw [World.size_alloc, World.size_alloc] at h
    exact h
  have hM2 : Tb3 w0 (w.heap.size + 1 + 1 + 1) (fun _ => -1) := by
    rw [hw0]
    have h := Bx3.made (((w.alloc (Obj.cells #[] 60)).alloc (Obj.cells #[] 3)).alloc (Obj.cells #[.int .i64 (-1), .int .i64 (-1), .int .i64 (-1)] 3)) 3 (-1) (-1) (-1)
    rw [World.size_alloc, World.size_alloc, World.size_alloc] at h
    exact h
  rw [← hw0]
  clear hw0
  obtain ⟨b2, eb2⟩ : ∃ b2, w.heap.size + 1 + 1 + 1 = b2 := ⟨_, rfl⟩
  rw [eb2] at hT0 hM2 ⊢
  obtain ⟨b1, eb1⟩ : ∃ b1, w.heap.size + 1 + 1 = b1 := ⟨_, rfl⟩
  rw [eb1] at hT0 hM1 ⊢
  have hb12 : b1 ≠ b2 := by omega
  clear eb1 eb2
  go_loopw [6, 7, 10, 11, 12] (fun v6 v7 v10 _ _ wr => ∃ (k : Nat) (done : List O3) (dead : List Int) (rd wm : Int → Int) (A1 : Option Addr) (c1 : Nat) (A2 : Option Addr) (c2 : Nat), k ≤ l.length ∧ v10 = .int .i64 k ∧ v6 = .slice A1 done.length c1 ∧ v7 = .slice A2 dead.length c2 ∧ rsTo l skip k = ⟨done, dead, rd, wm⟩ ∧ Two2 wr w.heap.size (.slice A1 done.length c1) (.slice A2 dead.length c2) done dead [b1, b2] ∧ Tb3 wr b1 rd ∧ Tb3 wr b2 wm ∧ Below w.heap.size w wr) (fun _ _ v10 _ _ _ => l.length - (intOf v10).toNat)
  case atStart => exact ⟨0, [], [], fun _ => -1, fun _ => -1, _, _, _, _, Nat.zero_le _, rfl, rfl, rfl, rfl, hT0, hM1, hM2, hB0⟩
  case round =>
    obtain ⟨k, done, dead, rd, wm, A1, c1, A2, c2, hk, rfl, rfl, rfl, hrs, hT, hm1, hm2, hbw⟩ := hrel
    clear hT0 hM1 hM2 hB0
    have HRS := Lib.hid hrs
    have HT := Lib.hid hT
    have HM1 := Lib.hid hm1
    have HM2 := Lib.hid hm2
    have HB := Lib.hid hbw
    clear hrs hT hm1 hm2 hbw
    by_cases hlt : k < l.length
    · have hRr := hR.on HB.out
      obtain ⟨b, off, rfl, hb, h0, h1, h2⟩ := hRr.at_ hlt
      have HR := Lib.hid hRr; clear hRr
      have hval := HV.out _ (List.getElem_mem hlt)
      obtain ⟨o, ho⟩ : ∃ o, l[k] = o := ⟨_, rfl⟩
      rw [ho] at h0 h1 h2 hval
      obtain ⟨tx, kind, item⟩ := o
      have HO := Lib.hid ho; clear ho
      have hle := rsTo_le (l := l) (skip := skip) k hk
      rw [HRS.out] at hle
      have HL1 := Lib.hid (show done.length ≤ 4194304 by have := hle.1; simp at this; omega)
      have HL2 := Lib.hid (show dead.length ≤ 4194304 by have := hle.2; simp at this; omega)
      have HL3 := Lib.hid (show dead.length ≤ maxLen by have := HL2.out; unfold maxLen; omega)
      clear hle
      obtain ⟨_, hit, hkd⟩ := valid_parts hval
      obtain ⟨st, hst⟩ : ∃ st : Int, st = (firstOf l tx : Nat) := ⟨_, rfl⟩
      have HST := Lib.hid hst; clear hst
      have hBs : w.heap.size ≤ wr.heap.size := HB.out.size
      cases hd : dead.contains tx
      all_goals have HD := Lib.hid hd
      all_goals clear hd
      · have hX0 : Bx3 (wr.alloc (.cells #[.int .i64 tx, .int .i64 kind, .int .i64 item] 60)) wr.heap.size 60 tx kind item := Bx3.made _ _ _ _ _
        have HX0 := Lib.hid hX0; clear hX0
        have HVL := Lib.hid hval
        have HIT := Lib.hid hit
        have HKD := Lib.hid hkd
        clear hval hit hkd
        go_wp2_with (first
          | (go_at_call 63; refine (spec_stampOf_any _ _ l _ _ HM.out (HR.out.on (by (repeat' (first | (with_reducible exact Below.refl _ _) | (with_reducible assumption) | (with_reducible refine Below.al ?_ _) | (with_reducible refine Below.drew ?_) | (with_reducible refine Below.drN ?_ _) | (with_reducible refine Below.via (by with_reducible assumption) ?_) | (with_reducible refine Below.setc ?_ ?_ _) | (with_reducible exact Nat.le_refl _) | (simp; done) | (simp; omega)))))).mono ?_; rintro e w1 ⟨rfl, rfl⟩; rw [← HST.out])
          | (go_at_call 64; refine (spec_hasInt_any _ _ dead _ _ HL3.out ((HT.out.i.own.rd).on (by (repeat' (first | (with_reducible exact Below.refl _ _) | (with_reducible assumption) | (with_reducible refine Below.al ?_ _) | (with_reducible refine Below.drew ?_) | (with_reducible refine Below.drN ?_ _) | (with_reducible refine Below.via (by with_reducible assumption) ?_) | (with_reducible refine Below.setc ?_ ?_ _) | (with_reducible exact Nat.le_refl _) | (simp; done) | (simp; omega)))))).mono ?_; rintro e w1 ⟨rfl, rfl⟩; rw [HD.out]))
        refine (spec_ends_any _ _ _ _).mono ?_
        rintro e w1 ⟨rfl, hb1⟩
        have hb0 : Below wr.heap.size wr w1 := by (repeat' (first | (with_reducible exact Below.refl _ _) | (with_reducible assumption) | (with_reducible refine Below.al ?_ _) | (with_reducible refine Below.drew ?_) | (with_reducible refine Below.drN ?_ _) | (with_reducible refine Below.via (by with_reducible assumption) ?_) | (with_reducible refine Below.setc ?_ ?_ _) | (with_reducible exact Nat.le_refl _) | (simp; done) | (simp; omega)))
        have n1 : wr.heap.size ≠ b1 := by have := HM1.out.lt; omega
        have n2 : wr.heap.size ≠ b2 := by have := HM2.out.lt; omega
        have n3 := n1.symm
        have n4 := n2.symm
        have T1 := Lib.hid (HT.out.more (b := wr.heap.size) hb0 hBs (Nat.le_refl _) (by have := hb1.size; simp at this; omega))
        have M1 := Lib.hid (HM1.out.on hb0)
        have M2 := Lib.hid (HM2.out.on hb0)
        have X1 := Lib.hid (HX0.out.be hb1)
        have B1 := Lib.hid (Below.via hb0 HB.out)
        have hBs1 : w.heap.size ≤ w1.heap.size := B1.out.size
        clear hb0 hb1 h0 h1 h2 HX0 HM1 HM2 HB HT
        obtain ⟨y0, y1, y2, y3, y4, y5, y6⟩ := X1.out.at_
        have e1 := M1.out.lt
        have e2 := M2.out.lt
        have e3 := M1.out.fz
        have e4 := M2.out.fz
        cases he : endB ⟨tx, kind, item⟩
        · have hkk : kind = 0 ∨ kind = 1 := by have := HKD.out he; omega
          obtain ⟨m, rfl⟩ := Int.eq_ofNat_of_zero_le HIT.out.1
          have hm : m < 3 := by have := HIT.out.2; omega
          have hm3 : (m : Int) < 3 := by omega
          have f1 := M1.out.c hm
          have f2 := M2.out.c hm
          clear he HVL HIT HKD
          rcases hkk with rfl | rfl
          · by_cases hw : st < wm m
            · go_wp2_with (first | (at_builtin; refine wpList_app_oa _ 35 60 i0 rfl _ _ rfl Try.underlying35 hi0 hz0 hz1 hz2 w.heap.size _ done rfl T1.out.o ⟨tx, 3, 0⟩ _ rfl (by first | rfl | simp) HL1.out (by first | exact hBs1 | (simp; exact hBs1)) ?_; intro A8 c8 w8 hO8 hg8 hv8; obtain ⟨T8, K8, B8⟩ := T1.out.appO hO8 hg8 hv8; have x8 := (show Bx3 w8 wr.heap.size _ _ _ _ from (K8 _ (by simp)).trans X1.out).at_.2.1; have hs8 : w.heap.size ≤ w8.heap.size := Nat.le_trans hBs1 (B8 hBs1).size) | (at_builtin; refine wpList_app_ia _ 24 3 j0 rfl _ _ rfl Try.underlying24 hj0 hy0 hy1 hy2 w.heap.size _ dead rfl T8.i tx _ rfl (by first | rfl | simp) HL2.out hs8 ?_; intro A9 c9 w9 hO9 hg9 hv9; obtain ⟨T9, K9, B9⟩ := T8.appI hO9 hg9 hv9))
              refine ⟨⟨k + 1, done ++ [⟨tx, 3, 0⟩], dead ++ [tx], rd, wm, A8, c8, A9, c9, by omega, by go_num, by simp, by simp, ?_, by rw [List.length_append, List.length_append]; exact T9.sub (by simp), (M1.out.same (K8 _ (by simp))).same (K9 _ (by simp)), (M2.out.same (K8 _ (by simp))).same (K9 _ (by simp)), (B1.out.trans (B8 hBs1)).trans (B9 hs8)⟩, by simp [intOf]; omega⟩
              have hr : rsOut skip rd wm ⟨tx, 0, (m : Int)⟩ st = 2 := by simp [rsOut, accB, hw]
              exact (rs_live hlt HRS.out HO.out HD.out HST.out hr (by simp [rsRd, accB, hw]; rfl) (by simp [rsWr, accB, hw]; rfl)).trans (by simp)
            · go_wp2_with fail
              refine wp_region_still_tail 11 (by kernel_rfl) (by kernel_rfl) ?_
              simp only [List.take_succ_cons, List.take_zero, List.drop_succ_cons, List.drop_zero]
              repeat still_step
              refine wpStill_nil ?_
              change wpList _ _ _ _ _ w1.drew
              obtain ⟨w2, hw2⟩ : ∃ w2, w2 = w1.drew := ⟨_, rfl⟩
              rw [← hw2]
              have T2 := Lib.hid (show Two2 w2 w.heap.size (.slice A1 done.length c1) (.slice A2 dead.length c2) done dead [wr.heap.size, b1, b2] by rw [hw2]; exact T1.out.drew)
              have N1 := Lib.hid (show Tb3 w2 b1 rd by rw [hw2]; exact M1.out.drew)
              have N2 := Lib.hid (show Tb3 w2 b2 wm by rw [hw2]; exact M2.out.drew)
              have X2 := Lib.hid (show Bx3 w2 wr.heap.size 60 tx 0 (m : Int) by rw [hw2]; exact X1.out)
              have B2 := Lib.hid (show Below w.heap.size w w2 by rw [hw2]; exact Below.drew B1.out)
              clear hw2 y0 y1 y2 y3 y4 y5 y6 e1 e2 e3 e4 f1 f2 hBs1
              obtain ⟨y0, y1, y2, y3, y4, y5, y6⟩ := X2.out.at_
              have e1 := N1.out.lt
              have e3 := N1.out.fz
              have f1 := N1.out.c hm
              have T3 : ∀ v, Two2 (w2.setCell ⟨b1, m, none⟩ v) w.heap.size (.slice A1 done.length c1) (.slice A2 dead.length c2) done dead [wr.heap.size, b1, b2] := fun v => (T2.out.far (b := b1) (by simp) (rs_grown_set (World.grownBy.refl _ _)))
              have hbb1 : w.heap.size ≤ b1 := (T2.out.off b1 (by simp)).1
              have hBs1 : w.heap.size ≤ w2.heap.size := B2.out.size
              have hBs2 : ∀ v : Value, w.heap.size ≤ (w2.setCell ⟨b1, m, none⟩ v).heap.size := fun v => by simpa using hBs1
              go_wp2_with (at_builtin; refine wpList_app_oa _ 35 60 i0 rfl _ _ rfl Try.underlying35 hi0 hz0 hz1 hz2 w.heap.size _ done rfl (T3 _).o ⟨tx, 0, (m : Int)⟩ _ rfl (by first | rfl | simp) HL1.out (by first | exact hBs1 | (simp; exact hBs1)) ?_; intro A8 c8 w8 hO8 hg8 hv8; obtain ⟨T8, K8, B8⟩ := (T3 _).appO hO8 hg8 hv8)
              have hw' : ¬ st < wm m := by omega
              refine ⟨⟨k + 1, done ++ [⟨tx, 0, (m : Int)⟩], dead, up1 rd m (if rd m < st then st else rd m), wm, A8, c8, A2, c2, by omega, by go_num, by simp, rfl, ?_, by rw [List.length_append]; exact T8.sub (by simp), ((N1.out.set hm (if rd m < st then st else rd m))).same (K8 _ (by simp)), ((N2.out.same (Below.heap_setCell w2 ⟨b1, m, none⟩ _ b2 (fun e => hb12 e.symm)))).same (K8 _ (by simp)), ((B2.out.setCell (p := ⟨b1, m, none⟩) hbb1 _)).trans (B8 (hBs2 _))⟩, by simp [intOf]; omega⟩
              have hr : rsOut skip rd wm ⟨tx, 0, (m : Int)⟩ st = 0 := by simp [rsOut, accB, hw']
              exact (rs_live hlt HRS.out HO.out HD.out HST.out hr (by simp [rsRd, accB, hw']; rfl) (by simp [rsWr, accB, hw']; rfl)).trans (by simp)
          · by_cases hw : st < wm m
            · cases skip
              · go_wp2_with (first | (at_builtin; refine wpList_app_oa _ 35 60 i0 rfl _ _ rfl Try.underlying35 hi0 hz0 hz1 hz2 w.heap.size _ done rfl T1.out.o ⟨tx, 3, 0⟩ _ rfl (by first | rfl | simp) HL1.out (by first | exact hBs1 | (simp; exact hBs1)) ?_; intro A8 c8 w8 hO8 hg8 hv8; obtain ⟨T8, K8, B8⟩ := T1.out.appO hO8 hg8 hv8; have x8 := (show Bx3 w8 wr.heap.size _ _ _ _ from (K8 _ (by simp)).trans X1.out).at_.2.1; have hs8 : w.heap.size ≤ w8.heap.size := Nat.le_trans hBs1 (B8 hBs1).size) | (at_builtin; refine wpList_app_ia _ 24 3 j0 rfl _ _ rfl Try.underlying24 hj0 hy0 hy1 hy2 w.heap.size _ dead rfl T8.i tx _ rfl (by first | rfl | simp) HL2.out hs8 ?_; intro A9 c9 w9 hO9 hg9 hv9; obtain ⟨T9, K9, B9⟩ := T8.appI hO9 hg9 hv9))
                refine ⟨⟨k + 1, done ++ [⟨tx, 3, 0⟩], dead ++ [tx], rd, wm, A8, c8, A9, c9, by omega, by go_num, by simp, by simp, ?_, by rw [List.length_append, List.length_append]; exact T9.sub (by simp), (M1.out.same (K8 _ (by simp))).same (K9 _ (by simp)), (M2.out.same (K8 _ (by simp))).same (K9 _ (by simp)), (B1.out.trans (B8 hBs1)).trans (B9 hs8)⟩, by simp [intOf]; omega⟩
                have hr : rsOut false rd wm ⟨tx, 1, (m : Int)⟩ st = 2 := by simp [rsOut, accB, hw]
                exact (rs_live hlt HRS.out HO.out HD.out HST.out hr (by simp [rsRd, accB, hw]; rfl) (by simp [rsWr, accB, hw]; rfl)).trans (by simp)
              · by_cases hr : st < rd m
                · go_wp2_with (first | (at_builtin; refine wpList_app_oa _ 35 60 i0 rfl _ _ rfl Try.underlying35 hi0 hz0 hz1 hz2 w.heap.size _ done rfl T1.out.o ⟨tx, 3, 0⟩ _ rfl (by first | rfl | simp) HL1.out (by first | exact hBs1 | (simp; exact hBs1)) ?_; intro A8 c8 w8 hO8 hg8 hv8; obtain ⟨T8, K8, B8⟩ := T1.out.appO hO8 hg8 hv8; have x8 := (show Bx3 w8 wr.heap.size _ _ _ _ from (K8 _ (by simp)).trans X1.out).at_.2.1; have hs8 : w.heap.size ≤ w8.heap.size := Nat.le_trans hBs1 (B8 hBs1).size) | (at_builtin; refine wpList_app_ia _ 24 3 j0 rfl _ _ rfl Try.underlying24 hj0 hy0 hy1 hy2 w.heap.size _ dead rfl T8.i tx _ rfl (by first | rfl | simp) HL2.out hs8 ?_; intro A9 c9 w9 hO9 hg9 hv9; obtain ⟨T9, K9, B9⟩ := T8.appI hO9 hg9 hv9))
                  refine ⟨⟨k + 1, done ++ [⟨tx, 3, 0⟩], dead ++ [tx], rd, wm, A8, c8, A9, c9, by omega, by go_num, by simp, by simp, ?_, by rw [List.length_append, List.length_append]; exact T9.sub (by simp), (M1.out.same (K8 _ (by simp))).same (K9 _ (by simp)), (M2.out.same (K8 _ (by simp))).same (K9 _ (by simp)), (B1.out.trans (B8 hBs1)).trans (B9 hs8)⟩, by simp [intOf]; omega⟩
                  have hro : rsOut true rd wm ⟨tx, 1, (m : Int)⟩ st = 2 := by simp [rsOut, accB, hw, hr]
                  exact (rs_live hlt HRS.out HO.out HD.out HST.out hro (by simp [rsRd, accB, hw, hr]; rfl) (by simp [rsWr, accB, hw, hr]; rfl)).trans (by simp)
                · go_wp2_with fail
                  refine ⟨⟨k + 1, done, dead, rd, wm, A1, c1, A2, c2, by omega, by go_num, rfl, rfl, ?_, T1.out.sub (by simp), M1.out, M2.out, B1.out⟩, by simp [intOf]; omega⟩
                  have hr' : ¬ st < rd m := by omega
                  have hro : rsOut true rd wm ⟨tx, 1, (m : Int)⟩ st = 1 := by simp [rsOut, accB, hw, hr']
                  exact (rs_live hlt HRS.out HO.out HD.out HST.out hro (by simp [rsRd, accB, hw, hr']; rfl) (by simp [rsWr, accB, hw, hr']; rfl)).trans (by simp)
            · by_cases hr : st < rd m
              · go_wp2_with (first | (at_builtin; refine wpList_app_oa _ 35 60 i0 rfl _ _ rfl Try.underlying35 hi0 hz0 hz1 hz2 w.heap.size _ done rfl T1.out.o ⟨tx, 3, 0⟩ _ rfl (by first | rfl | simp) HL1.out (by first | exact hBs1 | (simp; exact hBs1)) ?_; intro A8 c8 w8 hO8 hg8 hv8; obtain ⟨T8, K8, B8⟩ := T1.out.appO hO8 hg8 hv8; have x8 := (show Bx3 w8 wr.heap.size _ _ _ _ from (K8 _ (by simp)).trans X1.out).at_.2.1; have hs8 : w.heap.size ≤ w8.heap.size := Nat.le_trans hBs1 (B8 hBs1).size) | (at_builtin; refine wpList_app_ia _ 24 3 j0 rfl _ _ rfl Try.underlying24 hj0 hy0 hy1 hy2 w.heap.size _ dead rfl T8.i tx _ rfl (by first | rfl | simp) HL2.out hs8 ?_; intro A9 c9 w9 hO9 hg9 hv9; obtain ⟨T9, K9, B9⟩ := T8.appI hO9 hg9 hv9))
                refine ⟨⟨k + 1, done ++ [⟨tx, 3, 0⟩], dead ++ [tx], rd, wm, A8, c8, A9, c9, by omega, by go_num, by simp, by simp, ?_, by rw [List.length_append, List.length_append]; exact T9.sub (by simp), (M1.out.same (K8 _ (by simp))).same (K9 _ (by simp)), (M2.out.same (K8 _ (by simp))).same (K9 _ (by simp)), (B1.out.trans (B8 hBs1)).trans (B9 hs8)⟩, by simp [intOf]; omega⟩
                have hw' : ¬ st < wm m := by omega
                have hro : rsOut skip rd wm ⟨tx, 1, (m : Int)⟩ st = 2 := by simp [rsOut, accB, hw', hr]
                exact (rs_live hlt HRS.out HO.out HD.out HST.out hro (by simp [rsRd, accB, hw', hr]; rfl) (by simp [rsWr, accB, hw', hr]; rfl)).trans (by simp)
              · have T2 := (T1.out.far (b := b2) (by simp) (rs_grown_set (n := m) (v := .int .i64 st) (World.grownBy.refl _ _)))
                have hbb2 : w.heap.size ≤ b2 := (T1.out.off b2 (by simp)).1
                have hBs2 : w.heap.size ≤ (w1.setCell ⟨b2, m, none⟩ (.int .i64 st)).heap.size := by simpa using hBs1
                have HT2 := Lib.hid T2
                clear T2
                go_wp2_with (at_builtin; refine wpList_app_oa _ 35 60 i0 rfl _ _ rfl Try.underlying35 hi0 hz0 hz1 hz2 w.heap.size _ done rfl HT2.out.o ⟨tx, 1, (m : Int)⟩ _ rfl (by first | rfl | simp) HL1.out (by first | exact hBs1 | (simp; exact hBs1)) ?_; intro A8 c8 w8 hO8 hg8 hv8; obtain ⟨T8, K8, B8⟩ := HT2.out.appO hO8 hg8 hv8)
                have hr' : ¬ st < rd m := by omega
                have hw' : ¬ st < wm m := by omega
                refine ⟨⟨k + 1, done ++ [⟨tx, 1, (m : Int)⟩], dead, rd, up1 wm m st, A8, c8, A2, c2, by omega, by go_num, by simp, rfl, ?_, by rw [List.length_append]; exact T8.sub (by simp), (M1.out.same (Below.heap_setCell w1 ⟨b2, m, none⟩ _ b1 hb12)).same (K8 _ (by simp)), (M2.out.set hm st).same (K8 _ (by simp)), ((B1.out.setCell (p := ⟨b2, m, none⟩) hbb2 _)).trans (B8 hBs2)⟩, by simp [intOf]; omega⟩
                have hro : rsOut skip rd wm ⟨tx, 1, (m : Int)⟩ st = 0 := by simp [rsOut, accB, hw', hr']
                exact (rs_live hlt HRS.out HO.out HD.out HST.out hro (by simp [rsRd, accB, hw', hr']; rfl) (by simp [rsWr, accB, hw', hr']; rfl)).trans (by simp)
        · have hkk : kind = 2 ∨ kind = 3 := by have := HVL.out; simp [validB, endB, inR] at this he; omega
          clear he HVL HIT HKD
          rcases hkk with rfl | rfl
          · go_wp2_with (at_builtin; refine wpList_app_oa _ 35 60 i0 rfl _ _ rfl Try.underlying35 hi0 hz0 hz1 hz2 w.heap.size _ done rfl T1.out.o ⟨tx, 2, item⟩ _ rfl (by first | rfl | simp) HL1.out (by first | exact hBs1 | (simp; exact hBs1)) ?_; intro A8 c8 w8 hO8 hg8 hv8; obtain ⟨T8, K8, B8⟩ := T1.out.appO hO8 hg8 hv8)
            refine ⟨⟨k + 1, done ++ [⟨tx, 2, item⟩], dead, rd, wm, A8, c8, A2, c2, by omega, by go_num, by simp, rfl, ?_, by rw [List.length_append]; exact T8.sub (by simp), M1.out.same (K8 _ (by simp)), M2.out.same (K8 _ (by simp)), B1.out.trans (B8 hBs1)⟩, by simp [intOf]; omega⟩
            have hr : rsOut skip rd wm ⟨tx, 2, item⟩ st = 0 := by simp [rsOut, accB, ]
            exact (rs_live hlt HRS.out HO.out HD.out HST.out hr (by simp [rsRd, accB, ]; rfl) (by simp [rsWr, accB, ]; rfl)).trans (by simp)
          · go_wp2_with (at_builtin; refine wpList_app_oa _ 35 60 i0 rfl _ _ rfl Try.underlying35 hi0 hz0 hz1 hz2 w.heap.size _ done rfl T1.out.o ⟨tx, 3, item⟩ _ rfl (by first | rfl | simp) HL1.out (by first | exact hBs1 | (simp; exact hBs1)) ?_; intro A8 c8 w8 hO8 hg8 hv8; obtain ⟨T8, K8, B8⟩ := T1.out.appO hO8 hg8 hv8)
            refine ⟨⟨k + 1, done ++ [⟨tx, 3, item⟩], dead, rd, wm, A8, c8, A2, c2, by omega, by go_num, by simp, rfl, ?_, by rw [List.length_append]; exact T8.sub (by simp), M1.out.same (K8 _ (by simp)), M2.out.same (K8 _ (by simp)), B1.out.trans (B8 hBs1)⟩, by simp [intOf]; omega⟩
            have hr : rsOut skip rd wm ⟨tx, 3, item⟩ st = 0 := by simp [rsOut, accB, ]
            exact (rs_live hlt HRS.out HO.out HD.out HST.out hr (by simp [rsRd, accB, ]; rfl) (by simp [rsWr, accB, ]; rfl)).trans (by simp)
      · go_wp2_with (first
          | (go_at_call 63; refine (spec_stampOf_any _ _ l _ _ HM.out (HR.out.on (by (repeat' (first | (with_reducible exact Below.refl _ _) | (with_reducible assumption) | (with_reducible refine Below.al ?_ _) | (with_reducible refine Below.drew ?_) | (with_reducible refine Below.drN ?_ _) | (with_reducible refine Below.via (by with_reducible assumption) ?_) | (with_reducible refine Below.setc ?_ ?_ _) | (with_reducible exact Nat.le_refl _) | (simp; done) | (simp; omega)))))).mono ?_; rintro e w1 ⟨rfl, rfl⟩; rw [← HST.out])
          | (go_at_call 64; refine (spec_hasInt_any _ _ dead _ _ HL3.out ((HT.out.i.own.rd).on (by (repeat' (first | (with_reducible exact Below.refl _ _) | (with_reducible assumption) | (with_reducible refine Below.al ?_ _) | (with_reducible refine Below.drew ?_) | (with_reducible refine Below.drN ?_ _) | (with_reducible refine Below.via (by with_reducible assumption) ?_) | (with_reducible refine Below.setc ?_ ?_ _) | (with_reducible exact Nat.le_refl _) | (simp; done) | (simp; omega)))))).mono ?_; rintro e w1 ⟨rfl, rfl⟩; rw [HD.out]))
        have hb0 : Below wr.heap.size wr (wr.alloc (.cells #[.int .i64 tx, .int .i64 kind, .int .i64 item] 60)) := by (repeat' (first | (with_reducible exact Below.refl _ _) | (with_reducible assumption) | (with_reducible refine Below.al ?_ _) | (with_reducible refine Below.drew ?_) | (with_reducible refine Below.drN ?_ _) | (with_reducible refine Below.via (by with_reducible assumption) ?_) | (with_reducible refine Below.setc ?_ ?_ _) | (with_reducible exact Nat.le_refl _) | (simp; done) | (simp; omega)))
        exact ⟨⟨k + 1, done, dead, rd, wm, A1, c1, A2, c2, by omega, by go_num, rfl, rfl, rs_dead hlt HRS.out HO.out HD.out, HT.out.on hb0, HM1.out.on hb0, HM2.out.on hb0, Below.via hb0 HB.out⟩, by simp [intOf]; omega⟩
    · have hk' : k = l.length := by omega
      have HK := Lib.hid hk'; clear hk'
      go_wp2_with fail
      go_ret2
      refine ⟨⟨_, _, rfl, ?_⟩, HB.out⟩
      rw [← HK.out, HRS.out]
      exact HT.out.sub (fun _ m => by simp at m)
end Go.Proofs.Ytejipiadapggmaa
