/- IsSerializable: both functions. -/
import Derived.Test.YtaflkbemecjcpaaSeO
import Derived.Test.YtaflkbemecjcpaaSeS
import Derived.Test.YtaflkbemecjcpaaTxs
namespace Go.Proofs.Ytaflkbemecjcpaa
set_option linter.unusedSimpArgs false
set_option linter.unusedVariables false
open Go.RowKit
def txsNs (l : List O3) : List Nat := (List.range 4).filter fun i : Nat => hasTx l (i : Int)
theorem txsNs_ci (l : List O3) : txsL l = ci (txsNs l) := by
  unfold txsL txsTo ci txsNs
  rw [List.filter_map]
  rfl
theorem txsNs_nodup (l : List O3) : (txsNs l).Nodup := List.Pairwise.filter _ List.nodup_range
theorem txsNs_le4 (l : List O3) : (txsNs l).length ≤ 4 := by
  have h := List.length_filter_le (fun i : Nat => hasTx l (i : Int)) (List.range 4)
  rw [List.length_range] at h
  exact h
theorem txsNs_le3 (l : List O3) : ∀ x ∈ txsNs l, x ≤ 3 := by
  intro x hx
  have h := (List.mem_filter.1 hx).1
  rw [List.mem_range] at h
  omega
/-- The graph's edges. -/
def edF (l : List O3) : Nat → Nat → Bool := eTo (comL l) (comL l).length
theorem gra_edF (l : List O3) : graL (comL l) = mk4 (edF l) := rfl
theorem edF_irr {l : List O3} (hv : ValidP l) : ∀ a, edF l a a = false := fun a => eTo_irr (fun j hj => by
  have h := comL_all hv _ (List.getElem_mem hj)
  simp [validB, inR] at h
  omega) _ a
def topV (l : List O3) : Nat := topN (edF l) (txsNs (comL l)) (txsNs (comL l)).length []
def perV (l : List O3) : Nat := perN (edF l) (txsNs (comL l)) (txsNs (comL l)).length []
noncomputable def serV (l : List O3) : Bool := tt (ValidP l) && decide (0 < topV l)
theorem per_topV {l : List O3} (hv : ValidP l) : decide (0 < perV l) = decide (0 < topV l) := ser_eq (txsNs_nodup _) (edF_irr hv)
set_option maxHeartbeats 1000000 in
theorem impl_ordersOf_any (A : Option Addr) (c : Nat) (l : List O3) (w : World) (hv : ValidP l) (hR : RdO w w.heap.size A l) :
    Calls Try.prog 84 #[.slice A l.length c] w fun e w' => (∃ g c, e = .returned (.slice (some ⟨g, 0, none⟩) (perV l) c)) ∧ Below w.heap.size w w' := by
  have h16 := hv.1
  have hcl := comL_len l
  have HL := Lib.hid (show l.length ≤ 1048576 by omega)
  have HC := Lib.hid (show (comL l).length ≤ 1048576 by omega)
  have HV := Lib.hid hv
  clear h16 hcl hv
  go_enter Try.func84, Try.ntmps84
  go_wp2_with fail
  refine (impl_committedOf_any _ _ _ _ HL.out hR).mono ?_
  rintro e w1 ⟨⟨v, rfl, hO1⟩, hb1⟩
  obtain ⟨A1, c1, rfl, hP1⟩ := hO1.reads
  go_wp2_with fail
  refine (impl_txsOf_any _ _ _ _ HC.out hP1.2.1).mono ?_
  rintro e w2 ⟨⟨v, rfl, hO2⟩, hb2⟩
  rw [txsNs_ci] at hO2
  obtain ⟨A2, c2, rfl, hP2⟩ := hO2.reads
  rw [ci_len]
  go_wp2_with fail
  refine (impl_graphOf_any _ _ _ _ HV.out ((hR.on hb1).on hb2)).mono ?_
  rintro e w3 ⟨⟨v, rfl, hO3⟩, hb3⟩
  rw [gra_edF] at hO3
  obtain ⟨A3, c3, rfl, hP3⟩ := hO3.reads
  rw [mk4_len]
  obtain ⟨gb, go, rfl, _⟩ := hP3.2.1.at_ (k := 0) (by rw [mk4_len]; omega)
  go_wp2_with fail
  refine (impl_ordersBy_any (edF l) (txsNs (comL l)) (txsNs_le4 _) (txsNs_le3 _) _ _ _ _ _ _ (hP2.2.1.on hb3) hP3.2.1).mono ?_
  rintro e w4 ⟨⟨g, c4, rfl⟩, hb4⟩
  go_wp2_with fail
  go_ret
  exact ⟨⟨g, c4, rfl⟩, by (repeat' (first | (with_reducible exact Below.refl _ _) | (with_reducible assumption) | (with_reducible refine Below.al ?_ _) | (with_reducible refine Below.drew ?_) | (with_reducible refine Below.drN ?_ _) | (with_reducible refine Below.via (by with_reducible assumption) ?_) | (with_reducible refine Below.setc ?_ ?_ _) | (with_reducible exact Nat.le_refl _) | (simp; done) | (simp; omega)))⟩
set_option maxHeartbeats 1000000 in
theorem impl_OrdersOf_any (A : Option Addr) (c : Nat) (l : List O3) (w : World) (hl : l.length ≤ maxLen) (hc : l.length ≤ c) (hR : RdO w w.heap.size A l) :
    Calls Try.prog 63 #[.slice A l.length c] w fun e w' => (∃ A' n c, e = .returned (.slice A' n c) ∧ decide (0 < n) = serV l) ∧ Below w.heap.size w w' := by
  have HM := Lib.hid hl
  rcases Bool.eq_false_or_eq_true (tt (ValidP l)) with hv | hv
  all_goals have HV := Lib.hid hv
  · have HP := Lib.hid (tt_eq.1 hv)
    clear hv
    go_enter Try.func63, Try.ntmps63
    go_wp2_with (go_at_call 21; refine (impl_ValidSchedule_any _ _ _ _ HM.out hc hR).mono ?_; rintro e w1 ⟨rfl, hb1⟩; rw [HV.out])
    refine (impl_ordersOf_any _ _ _ _ HP.out (hR.on hb1)).mono ?_
    rintro e w2 ⟨⟨g, c2, rfl⟩, hb2⟩
    go_wp2_with fail
    go_ret
    exact ⟨⟨_, _, _, rfl, by rw [serV, HV.out, Bool.true_and, per_topV HP.out]⟩, by (repeat' (first | (with_reducible exact Below.refl _ _) | (with_reducible assumption) | (with_reducible refine Below.al ?_ _) | (with_reducible refine Below.drew ?_) | (with_reducible refine Below.drN ?_ _) | (with_reducible refine Below.via (by with_reducible assumption) ?_) | (with_reducible refine Below.setc ?_ ?_ _) | (with_reducible exact Nat.le_refl _) | (simp; done) | (simp; omega)))⟩
  · clear hv
    go_enter Try.func63, Try.ntmps63
    go_wp2_with (go_at_call 21; refine (impl_ValidSchedule_any _ _ _ _ HM.out hc hR).mono ?_; rintro e w1 ⟨rfl, hb1⟩; rw [HV.out])
    go_ret
    exact ⟨⟨_, _, _, rfl, by rw [serV, HV.out]; rfl⟩, by (repeat' (first | (with_reducible exact Below.refl _ _) | (with_reducible assumption) | (with_reducible refine Below.al ?_ _) | (with_reducible refine Below.drew ?_) | (with_reducible refine Below.drN ?_ _) | (with_reducible refine Below.via (by with_reducible assumption) ?_) | (with_reducible refine Below.setc ?_ ?_ _) | (with_reducible exact Nat.le_refl _) | (simp; done) | (simp; omega)))⟩
set_option maxHeartbeats 1000000 in
theorem impl_IsSerializable_any (A : Option Addr) (c : Nat) (l : List O3) (w : World) (hl : l.length ≤ maxLen) (hL : l.length ≤ 1048576) (hc : l.length ≤ c) (hR : RdO w w.heap.size A l) :
    Calls Try.prog 32 #[.slice A l.length c] w fun e w' => e = .returned (.bool (serV l)) ∧ Below w.heap.size w w' := by
  go_enter Try.func32, Try.ntmps32
  go_wp2_with fail
  refine (impl_OrdersOf_any _ _ _ _ hl hc hR).mono ?_
  rintro e w1 ⟨⟨A', n, c', rfl, hn⟩, hb1⟩
  have HN := Lib.hid hn
  clear hn
  go_wp2_with fail
  go_ret
  refine ⟨?_, hb1⟩
  rw [← HN.out]
  simp
set_option maxRecDepth 8192 in
set_option maxHeartbeats 1000000 in
theorem spec_topological_none (A1 A2 : Option Addr) (cL n2 cG eb ho cH : Nat) (w : World) :
    Calls Try.prog 82 #[.slice A1 0 cL, .slice A2 n2 cG, .slice (some ⟨eb, ho, none⟩) 0 cH] w fun e w' => (∃ g c, e = .returned (.slice (some ⟨g, 0, none⟩) 1 c)) ∧ Below w.heap.size w w' := by
  obtain ⟨i0, hi0, hz0, hz1, hz2⟩ := info_parts info_I
  have hmade := AppI.made (w := w) (base := w.heap.size) (E := 3) (Nat.le_refl _) #[] 0 (by simp [maxLen]) rfl
  have HMD := Lib.hid hmade
  clear hmade
  go_enter Try.func82, Try.ntmps82
  go_wp2_with (at_builtin; refine wpList_app_is _ 24 3 i0 rfl _ _ rfl Try.underlying24 hi0 hz0 hz1 hz2 w.heap.size _ [] rfl HMD.out (w.alloc (.cells #[] 3)).heap.size eb ho 0 cH [] rfl rfl (fun h => absurd h (by simp)) (by simp) (by simp) ?_; intro A2 c2 w2 hO2 hg2 hb2)
  go_ret
  refine ⟨⟨w2.heap.size, 1, rfl⟩, ?_⟩
  have h0 := ((Below.refl w.heap.size w).alloc (Nat.le_refl _) (.cells #[] 3)).trans hb2
  exact h0.alloc h0.size _
set_option maxHeartbeats 1000000 in
theorem spec_serializable_any (A : Option Addr) (c : Nat) (l : List O3) (w : World) (hv : ValidP l) (hR : RdO w w.heap.size A l) :
    Calls Try.prog 62 #[.slice A l.length c] w fun e w' => e = .returned (.bool (decide (0 < topV l))) ∧ Below w.heap.size w w' := by
  have h16 := hv.1
  have hcl := comL_len l
  have HL := Lib.hid (show l.length ≤ 1048576 by omega)
  have HC := Lib.hid (show (comL l).length ≤ 1048576 by omega)
  have HC16 := Lib.hid (show (comL l).length ≤ 16 by omega)
  have HV := Lib.hid hv
  clear h16 hcl hv
  go_enter Try.func62, Try.ntmps62
  go_wp2_with fail
  refine (spec_committed_any _ _ _ _ HL.out hR).mono ?_
  rintro e w1 ⟨⟨v, rfl, hO1⟩, hb1⟩
  obtain ⟨A1, c1, rfl, hP1⟩ := hO1.reads
  go_wp2_with fail
  refine (spec_txs_any _ _ _ _ HC.out hP1.2.1).mono ?_
  rintro e w2 ⟨⟨v, rfl, hO2⟩, hb2⟩
  rw [txsNs_ci] at hO2
  obtain ⟨A2, c2, rfl, hP2⟩ := hO2.reads
  rw [ci_len]
  go_wp2_with fail
  refine (spec_graph_any _ _ _ _ HC16.out (comL_all HV.out) (hP1.2.1.on hb2)).mono ?_
  rintro e w3 ⟨⟨v, rfl, hO3⟩, hb3⟩
  rw [gra_edF] at hO3
  obtain ⟨A3, c3, rfl, hP3⟩ := hO3.reads
  rw [mk4_len]
  obtain ⟨gb, go, rfl, _⟩ := hP3.2.1.at_ (k := 0) (by rw [mk4_len]; omega)
  have hR2 := hP2.2.1.on hb3
  have hR3 := hP3.2.1
  clear hO1 hO2 hO3 hP1 hP2 hP3
  by_cases he : (txsNs (comL l)).length = 0
  · have HT := Lib.hid (show topV l = 1 by unfold topV; rw [he]; rfl)
    rw [he]
    clear he
    go_wp2_with fail
    refine (spec_topological_none _ _ _ _ _ _ _ _ _).mono ?_
    rintro e w4 ⟨⟨g, c4, rfl⟩, hb4⟩
    go_wp2_with fail
    go_ret
    refine ⟨?_, by (repeat' (first | (with_reducible exact Below.refl _ _) | (with_reducible assumption) | (with_reducible refine Below.al ?_ _) | (with_reducible refine Below.drew ?_) | (with_reducible refine Below.drN ?_ _) | (with_reducible refine Below.via (by with_reducible assumption) ?_) | (with_reducible refine Below.setc ?_ ?_ _) | (with_reducible exact Nat.le_refl _) | (simp; done) | (simp; omega)))⟩
    rw [HT.out]
    simp
  · obtain ⟨lb, lo, e2⟩ : ∃ lb lo, A2 = some ⟨lb, lo, none⟩ := by
      obtain ⟨a, b, h, _⟩ := hR2.at_ (k := 0) (by rw [ci_len]; omega)
      exact ⟨a, b, h⟩
    subst e2
    clear he
    have hB3 : Below w3.heap.size w3 (w3.alloc (.cells #[] 3)) := by (repeat' (first | (with_reducible exact Below.refl _ _) | (with_reducible assumption) | (with_reducible refine Below.al ?_ _) | (with_reducible refine Below.drew ?_) | (with_reducible refine Below.drN ?_ _) | (with_reducible refine Below.via (by with_reducible assumption) ?_) | (with_reducible refine Below.setc ?_ ?_ _) | (with_reducible exact Nat.le_refl _) | (simp; done) | (simp; omega)))
    have R2 := Lib.hid (hR2.on hB3)
    have R3 := Lib.hid (hR3.on hB3)
    clear hR2 hR3 hB3
    go_wp2_with fail
    refine (spec_topological_any (edF l) (txsNs (comL l)) (txsNs_le4 _) (txsNs_le3 _) (txsNs (comL l)).length [] 0 _ _ _ _ _ _ _ _ _ _ rfl (by simp) R2.out R3.out (fun h => absurd h (by simp [ci]))).mono ?_
    rintro e w4 ⟨⟨g, c4, rfl, _⟩, hb4⟩
    go_wp2_with fail
    go_ret
    refine ⟨?_, by (repeat' (first | (with_reducible exact Below.refl _ _) | (with_reducible assumption) | (with_reducible refine Below.al ?_ _) | (with_reducible refine Below.drew ?_) | (with_reducible refine Below.drN ?_ _) | (with_reducible refine Below.via (by with_reducible assumption) ?_) | (with_reducible refine Below.setc ?_ ?_ _) | (with_reducible exact Nat.le_refl _) | (simp; done) | (simp; omega)))⟩
    simp [topV]
    exact decide_eq_decide.2 Iff.rfl
set_option maxHeartbeats 1000000 in
theorem spec_IsSerializable_any (A : Option Addr) (c : Nat) (l : List O3) (w : World) (hl : l.length ≤ maxLen) (hL : l.length ≤ 1048576) (hR : RdO w w.heap.size A l) :
    Calls Try.prog 31 #[.slice A l.length c] w fun e w' => e = .returned (.bool (serV l)) ∧ Below w.heap.size w w' := by
  have HM := Lib.hid hl
  rcases Bool.eq_false_or_eq_true (tt (ValidP l)) with hv | hv
  all_goals have HV := Lib.hid hv
  · have HP := Lib.hid (tt_eq.1 hv)
    clear hv
    have HS := Lib.hid (show serV l = decide (0 < topV l) by rw [serV, HV.out, Bool.true_and])
    go_enter Try.func31, Try.ntmps31
    go_wp2_with (go_at_call 37; refine (spec_validSchedule_any _ _ _ _ HM.out hR).mono ?_; rintro e w1 ⟨rfl, hb1⟩; rw [HV.out])
    refine (spec_serializable_any _ _ _ _ HP.out (hR.on hb1)).mono ?_
    rintro e w2 ⟨rfl, hb2⟩
    rw [← HS.out]
    go_wp2_with fail
    go_ret
    exact ⟨rfl, by (repeat' (first | (with_reducible exact Below.refl _ _) | (with_reducible assumption) | (with_reducible refine Below.al ?_ _) | (with_reducible refine Below.drew ?_) | (with_reducible refine Below.drN ?_ _) | (with_reducible refine Below.via (by with_reducible assumption) ?_) | (with_reducible refine Below.setc ?_ ?_ _) | (with_reducible exact Nat.le_refl _) | (simp; done) | (simp; omega)))⟩
  · clear hv
    have HS := Lib.hid (show serV l = false by rw [serV, HV.out]; rfl)
    go_enter Try.func31, Try.ntmps31
    go_wp2_with (go_at_call 37; refine (spec_validSchedule_any _ _ _ _ HM.out hR).mono ?_; rintro e w1 ⟨rfl, hb1⟩; rw [HV.out])
    go_ret
    exact ⟨by rw [HS.out]; rfl, by (repeat' (first | (with_reducible exact Below.refl _ _) | (with_reducible assumption) | (with_reducible refine Below.al ?_ _) | (with_reducible refine Below.drew ?_) | (with_reducible refine Below.drN ?_ _) | (with_reducible refine Below.via (by with_reducible assumption) ?_) | (with_reducible refine Below.setc ?_ ?_ _) | (with_reducible exact Nat.le_refl _) | (simp; done) | (simp; omega)))⟩
end Go.Proofs.Ytaflkbemecjcpaa
