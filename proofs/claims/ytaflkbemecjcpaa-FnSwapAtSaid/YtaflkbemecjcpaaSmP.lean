/- Where each operation stands: contract of the program's placesOf, a map by transaction and number. -/
import Derived.Test.YtaflkbemecjcpaaSmM
import Derived.Test.YtaflkbemecjcpaaGrI
namespace Go.Proofs.Ytaflkbemecjcpaa
set_option linter.unusedSimpArgs false
set_option linter.unusedVariables false
open Go.RowKit Go.Maps
theorem placeT : PairT Try.prog 64 where
  law := Keyed.of_law (deep_law_laid laidAll (m := 2) (by omega) (of_decide_eq_true (by kernel_rfl)) (by kernel_rfl) (by rw [Try.underlying64]))
  ty := by kernel_rfl
  row := ⟨_, _, Try.underlying64, by decide, by decide, Try.underlying3, Try.underlying3, rfl, rfl, by kernel_rfl, by kernel_rfl⟩
  cells := by kernel_rfl
  some_ := ⟨Try.prog.types.size - 1, (Nat.sub_add_cancel (of_decide_eq_true (by kernel_rfl))).symm⟩
theorem zeroInt (w : World) : (zeroValue 3).run Try.prog w = .ok (.int .i64 0) w := by kernel_rfl
def kpI (l : List O3) (i : Nat) : Lit := kp (txI l i) (nmI l i)
def PlD (D : DataW Unit) (l : List O3) (k : Nat) : Prop := (∀ kl, Maps.has D kl = true → ∃ i, i < k ∧ kl = kpI l i) ∧ ∀ i, i < k → ∀ z, D.atKey (kpI l i) z = .lit (.int .i64 i)
theorem PlD.start (l : List O3) : PlD (.map []) l 0 := ⟨fun kl h => by simp [Maps.has] at h, fun i h => by omega⟩
theorem tx_wf {l : List O3} (hv : ∀ o ∈ l, validB o = true) {i : Nat} (hi : i < l.length) : (Lit.int .i64 (txI l i)).wf = true := by
  obtain ⟨n, hn, h3⟩ := valid_num hv hi
  rw [txI_eq hi, hn]; exact WalkArith.wf_i64 (by omega)
theorem nm_wf {l : List O3} (hl : l.length ≤ 16) {i : Nat} (hi : i < l.length) : (Lit.int .i64 (nmI l i : Int)).wf = true := by
  have := num_le l (txI l i) i
  exact WalkArith.wf_i64 (by unfold nmI; omega)
theorem kpI_inj {l : List O3} (hv : ∀ o ∈ l, validB o = true) (hl : l.length ≤ 16) {i j : Nat} (hi : i < l.length) (hj : j < l.length) (h : kpI l i = kpI l j) : i = j := by
  obtain ⟨h1, h2⟩ := placeT.inj (tx_wf hv hi) (nm_wf hl hi) (tx_wf hv hj) (nm_wf hl hj) h
  exact nm_inj hi hj h1 (by omega)
theorem PlD.put {D : DataW Unit} {l : List O3} {k : Nat} (h : PlD D l k) (hD : IsMap D) (hv : ∀ o ∈ l, validB o = true) (hl : l.length ≤ 16) (hk : k < l.length) : PlD (D.put (kpI l k) (.lit (.int .i64 k))) l (k + 1) := by
  refine ⟨fun kl hkl => ?_, fun i hi z => ?_⟩
  · by_cases e : kl = kpI l k
    · exact ⟨k, by omega, e⟩
    · rw [has_put_other e] at hkl
      obtain ⟨i, h1, h2⟩ := h.1 kl hkl
      exact ⟨i, by omega, h2⟩
  · by_cases e : i = k
    · subst e
      exact atKey_put_same hD (placeT.isKey (tx_wf hv hk) (nm_wf hl hk)) _ _
    · rw [atKey_put_other (fun e' => e (kpI_inj hv hl (by omega) hk e'))]
      exact h.2 i (by omega) z
/-- Four numbers in a block of their own. -/
def CtAt (w : World) (g : Nat) (E : TypeId) (F : Nat → Nat) : Prop := w.heap[g]? = some (.cells #[.int .i64 (F 0), .int .i64 (F 1), .int .i64 (F 2), .int .i64 (F 3)] E (0, 0))
theorem CtAt.cell {w : World} {g : Nat} {E : TypeId} {F : Nat → Nat} (h : CtAt w g E F) {n : Nat} (hn : n < 4) : w.cell? ⟨g, n, none⟩ = some (.int .i64 (F n)) ∧ w.frozen? ⟨g, n, none⟩ = false := by
  refine ⟨?_, frozen_of_row w g n _ _ h⟩
  rw [cell_of_row w g _ _ _ (0, 0) h]
  match n, hn with
  | 0, _ => rfl
  | 1, _ => rfl
  | 2, _ => rfl
  | 3, _ => rfl
theorem CtAt.set_ {w : World} {g : Nat} {E : TypeId} {F G : Nat → Nat} (h : CtAt w g E F) {n : Nat} (hn : n < 4) {v : Nat} (hG : ∀ t, t < 4 → G t = if t = n then v else F t) : CtAt (w.setCell ⟨g, n, none⟩ (.int .i64 v)) g E G := by
  have hs := heap_setCell_same w g n _ _ (.int .i64 (v : Int)) h
  unfold CtAt
  rw [hs, hG 0 (by omega), hG 1 (by omega), hG 2 (by omega), hG 3 (by omega)]
  match n, hn with
  | 0, _ => rfl
  | 1, _ => rfl
  | 2, _ => rfl
  | 3, _ => rfl
set_option maxRecDepth 100000 in
set_option maxHeartbeats 4000000 in
theorem impl_placesOf_any (A : Option Addr) (c : Nat) (l : List O3) (w : World) (hl16 : l.length ≤ 16) (hv : ∀ o ∈ l, validB o = true) (hR : RdO w w.heap.size A l) :
    Calls Try.prog 55 #[.slice A l.length c] w fun e w' => (∃ D, e = .returned (.map (some w.heap.size)) ∧ w'.ownsMap Try.prog 64 (plainElem (H := Unit) Try.prog 3) w.heap.size 100 D ∧ PlD D l l.length) ∧ Below w.heap.size w w' := by
  have hmm := @run_makeMap Try.prog
  have HV := Lib.hid hv; clear hv
  have HM0 := Lib.hid ((World.ownsMap_made w Try.prog 64 (plainElem (H := Unit) Try.prog 3)).alloc (.cells #[.int .i64 0, .int .i64 0, .int .i64 0, .int .i64 0] 81))
  have HC0 := Lib.hid (show CtAt ((w.alloc (.map #[] 0)).alloc (.cells #[.int .i64 0, .int .i64 0, .int .i64 0, .int .i64 0] 81)) (w.heap.size + 1) 81 (fun t => numTo l t 0) by
    have := heap_alloc_new (w.alloc (.map #[] 0)) (.cells #[.int .i64 0, .int .i64 0, .int .i64 0, .int .i64 0] 81)
    unfold CtAt
    simpa [numTo] using this)
  have HB0 := Lib.hid (show Below w.heap.size w ((w.alloc (.map #[] 0)).alloc (.cells #[.int .i64 0, .int .i64 0, .int .i64 0, .int .i64 0] 81)) by (repeat' (first | (with_reducible exact Below.refl _ _) | (with_reducible assumption) | (with_reducible refine Below.al ?_ _) | (with_reducible refine Below.drew ?_) | (with_reducible refine Below.drN ?_ _) | (with_reducible refine Below.via (by with_reducible assumption) ?_) | (with_reducible refine Below.setc ?_ ?_ _) | (with_reducible exact Nat.le_refl _) | (simp; done) | (simp; omega))))
  go_enter Try.func55, Try.ntmps55
  go_wp2_with fail
  go_loopw [5, 6, 10] (fun _ _ v10 wr => ∃ (k : Nat) (D : DataW Unit), k ≤ l.length ∧ v10 = .int .i64 k ∧ wr.ownsMap Try.prog 64 (plainElem (H := Unit) Try.prog 3) w.heap.size k D ∧ PlD D l k ∧ CtAt wr (w.heap.size + 1) 81 (fun t => numTo l t k) ∧ Below w.heap.size w wr) (fun _ _ v10 _ => l.length - (intOf v10).toNat)
  case atStart => exact ⟨0, _, Nat.zero_le _, rfl, HM0.out, PlD.start l, HC0.out, HB0.out⟩
  case round =>
    clear HM0 HC0 HB0
    obtain ⟨k, D, hk, rfl, hown, hP, hC, hbw⟩ := hrel
    have HO := Lib.hid hown; clear hown
    have HP := Lib.hid hP; clear hP
    have HC := Lib.hid hC; clear hC
    have HB := Lib.hid hbw; clear hbw
    by_cases hlt : k < l.length
    · obtain ⟨b, off, rfl, hb, h0, h1, h2⟩ := (hR.on HB.out).at_ hlt
      obtain ⟨n, hn, hn3⟩ := valid_num HV.out hlt
      have HTX := Lib.hid (show txI l k = n by rw [txI_eq hlt, hn])
      have HNY := Lib.hid (num_yes hlt (t := (n : Int)) (by rw [hn]; simp))
      have HNN := Lib.hid (fun (t : Nat) (ht : t ≠ n) => num_no hlt (t := (t : Int)) (by rw [hn, beq_eq_false_iff_ne]; omega))
      have HNM := Lib.hid (show nmI l k = numTo l n k by unfold nmI; rw [HTX.out])
      have HKP := Lib.hid (show kpI l k = kp n (numTo l n k : Nat) by unfold kpI; rw [HNM.out, HTX.out])
      have hnl := num_le l n k
      rw [hn] at h0
      clear hn
      have hn4 : (n : Int) < 4 := by omega
      have hgl := lt_of_block HC.out
      obtain ⟨wb, hwb⟩ : ∃ wb, wb = wr.alloc (.cells #[.int .i64 n, .int .i64 l[k].kind, .int .i64 l[k].item] 40) := ⟨_, rfl⟩
      have hal : Below wr.heap.size wr wb := by rw [hwb]; (repeat' (first | (with_reducible exact Below.refl _ _) | (with_reducible assumption) | (with_reducible refine Below.al ?_ _) | (with_reducible refine Below.drew ?_) | (with_reducible refine Below.drN ?_ _) | (with_reducible refine Below.via (by with_reducible assumption) ?_) | (with_reducible refine Below.setc ?_ ?_ _) | (with_reducible exact Nat.le_refl _) | (simp; done) | (simp; omega)))
      have BX := Lib.hid (show Bx3 wb wr.heap.size 40 n l[k].kind l[k].item by rw [hwb]; exact Bx3.made _ _ _ _ _)
      have CB := Lib.hid (show CtAt wb (w.heap.size + 1) 81 (fun t => numTo l t k) from (hal.block _ hgl).trans HC.out)
      have OB := Lib.hid (HO.out.kept (grown_of_b hal none) (by simp))
      have BB := Lib.hid (Below.trans HB.out (hal.mono HB.out.size))
      obtain ⟨x0, x1, x2, x3, x4, x5, x6⟩ := BX.out.at_
      obtain ⟨y0, y1⟩ := CB.out.cell (n := n) (by omega)
      clear hal
      go_wp2_with fail
      rw [← hwb]
      clear hwb h0 h1 h2
      refine wp_region_still_tail 9 (by kernel_rfl) (by kernel_rfl) ?_
      simp only [List.take_succ_cons, List.take_zero, List.drop_succ_cons, List.drop_zero]
      repeat still_step
      refine wpStill_nil ?_
      change wpList _ _ _ _ _ wb.drew
      have OD := Lib.hid (show wb.drew.ownsMap Try.prog 64 (plainElem (H := Unit) Try.prog 3) w.heap.size k D from OB.out)
      clear x0 x1 x2 x3 x4 x5 x6 y0 y1
      go_wp2_with (at_mapUpdate; refine wpList_mapUpdate_own _ rfl _ _ _ 61 rfl 64 3 placeT.law Try.underlying61 (plainElem (H := Unit) Try.prog 3) w.heap.size k _ rfl OD.out (by unfold maxLen; omega) (pv n (numTo l n k : Nat)) (.int .i64 k) (kp n (numTo l n k : Nat)) rfl rfl (placeT.rd (WalkArith.wf_i64 (by omega)) (WalkArith.wf_i64 (by omega))) (.lit (.int .i64 k)) [] (plainElem_int Try.underlying3 (WalkArith.wf_i64 (by omega))) ?_; intro w3 hown3 hgrow3; have hsz3 := hgrow3.size; have hbx3 : Bx3 w3 wr.heap.size 40 n l[k].kind l[k].item := (hgrow3.block _ BX.out.at_.1 (by simp; omega)).trans BX.out; have hct3 : CtAt w3 (w.heap.size + 1) 81 (fun t => numTo l t k) := (hgrow3.block _ (lt_of_block CB.out) (by simp)).trans CB.out; obtain ⟨x0, x1, x2, x3, x4, x5, x6⟩ := hbx3.at_; obtain ⟨y0, y1⟩ := hct3.cell (n := n) (by omega); have CT3 := Lib.hid hct3; clear hct3 hbx3)
      refine ⟨⟨k + 1, _, by omega, by go_num, World.ownsMap.setCell hown3 (by simp) _, ?_, ?_, ?_⟩, by simp [intOf]; omega⟩
      · rw [← HKP.out]; exact HP.out.put HO.out.isMap HV.out hl16 hlt
      · refine CT3.out.set_ (by omega) (v := numTo l n k + 1) (fun t ht => ?_)
        by_cases e : t = n
        · subst e; rw [if_pos rfl]; exact HNY.out
        · rw [if_neg e]; exact HNN.out t e
      · exact ((Below.drew BB.out).grown hgrow3 BB.out.size (fun j hj => by cases hj; exact Nat.le_refl _)).setCell (p := ⟨w.heap.size + 1, n, none⟩) (by simp) _
    · have hk' : k = l.length := by omega
      have HK := Lib.hid hk'; clear hk'
      go_wp2
      go_ret
      exact ⟨⟨D, rfl, HO.out.mono (by omega), by have h := HP.out; rw [HK.out] at h; exact h⟩, HB.out⟩
end Go.Proofs.Ytaflkbemecjcpaa
