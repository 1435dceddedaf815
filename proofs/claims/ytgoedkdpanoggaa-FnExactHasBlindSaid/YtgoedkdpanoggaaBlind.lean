/- Contracts of slices.Index and slices.Contains at operations, and of HasBlind, the reference's and the program's. -/
import Derived.Test.YtgoedkdpanoggaaFilt
namespace Go.Proofs.Ytgoedkdpanoggaa
set_option linter.unusedSimpArgs false
set_option linter.unusedVariables false
open Go.RowKit

/-- '==' at two operations. -/
@[go_sem ↓ high] theorem run_eql_Op (a b c a' b' c' : Int) (W : World) : (binOp .eql 44 (.agg #[.int .i64 a, .int .i64 b, .int .i64 c]) (.agg #[.int .i64 a', .int .i64 b', .int .i64 c'])).run Try.prog W = .ok (.bool (O3.eqb ⟨a, b, c⟩ ⟨a', b', c'⟩)) W := by
  rw [run_eql_struct]
  cases e0 : (a == a') <;> cases e1 : (b == b') <;> cases e2 : (c == c') <;> simp [go_sem, e0, e1, e2, O3.eqb]

set_option maxHeartbeats 400000 in
theorem Index_Op_any (A : Option Addr) (c : Nat) (l : List O3) (x y z : Int) (w : World) (hl : l.length ≤ maxLen) (hR : RdO w w.heap.size A l) :
    Calls Try.prog 87 #[.slice A l.length c, .agg #[.int .i64 x, .int .i64 y, .int .i64 z]] w fun e w' => e = .returned (.int .i64 (idxB (fun o => O3.eqb ⟨x, y, z⟩ o) l)) ∧ Below w.heap.size w w' := by
  unfold maxLen at hl
  go_enter Try.func87, Try.ntmps87
  go_wp2_with fail
  have hb0 : Below w.heap.size w (w.alloc (.cells #[.int .i64 x, .int .i64 y, .int .i64 z] 44)) := by (repeat' (first | (with_reducible exact Below.refl _ _) | (with_reducible assumption) | (with_reducible refine Below.al ?_ _) | (with_reducible refine Below.drew ?_) | (with_reducible refine Below.drN ?_ _) | (with_reducible refine Below.via (by with_reducible assumption) ?_) | (with_reducible refine Below.setc ?_ ?_ _) | (with_reducible exact Nat.le_refl _) | (simp; done) | (simp; omega)))
  have hX0 : ∀ j u, #[Value.int .i64 x, Value.int .i64 y, Value.int .i64 z][j]? = some u → (w.alloc (.cells #[.int .i64 x, .int .i64 y, .int .i64 z] 44)).cell? ⟨w.heap.size, j, none⟩ = some u := fun j u h => by rw [World.cell?_alloc_new]; exact h
  go_loopw [8] (fun i wr => ∃ k : Nat, k ≤ l.length ∧ i = .int .i64 k ∧ (l.take k).findIdx? (fun o => O3.eqb ⟨x, y, z⟩ o) = none ∧ Below w.heap.size w wr ∧ w.heap.size < wr.heap.size ∧ (∀ j u, #[Value.int .i64 x, Value.int .i64 y, Value.int .i64 z][j]? = some u → wr.cell? ⟨w.heap.size, j, none⟩ = some u)) (fun i _ => l.length - (intOf i).toNat)
  case atStart => exact ⟨0, Nat.zero_le _, rfl, rfl, hb0, by simp, hX0⟩
  case round =>
    obtain ⟨k, hk, rfl, hall, hbw, hz, hX⟩ := hrel
    have HA := Lib.hid hall; clear hall
    have HB := Lib.hid hbw; clear hbw hb0 hX0
    have x0 := hX 0 _ rfl; have x1 := hX 1 _ rfl; have x2 := hX 2 _ rfl
    have HX := Lib.hid hX; clear hX
    by_cases hlt : k < l.length
    · obtain ⟨b, off, rfl, hb', h0, h1, h2⟩ := (hR.on HB.out).at_ hlt
      go_wp2_with fail
      ((first | (with_reducible refine wp_region_from (by with_reducible assumption) follows (by kernel_rfl) ?_) | (refine wp_region_aft follows (by kernel_rfl) ?_)); (repeat (go_big_quiet_step (fail))); refine wpQuiet_nil ?_; intro _ hw'; obtain ⟨⟨w1, hb⟩, rfl⟩ := hw'; (try dsimp only); first | (replace hb := Below.via hb (by with_reducible assumption); (try clear hbc hbf hbz); obtain ⟨hbc, hbf, hbz⟩ := bcell hb) | (obtain ⟨hbc, hbf, hbz⟩ := bcell hb))
      go_wp2
      · go_ret
        exact ⟨ret_int (idx_hit hlt HA.out (by assumption)), by have hbw := HB.out; (repeat' (first | (with_reducible exact Below.refl _ _) | (with_reducible assumption) | (with_reducible refine Below.al ?_ _) | (with_reducible refine Below.drew ?_) | (with_reducible refine Below.drN ?_ _) | (with_reducible refine Below.via (by with_reducible assumption) ?_) | (with_reducible refine Below.setc ?_ ?_ _) | (with_reducible exact Nat.le_refl _) | (simp; done) | (simp; omega)))⟩
      · refine ⟨⟨k + 1, by omega, by go_num, idx_on hlt HA.out (by assumption), by have hbw := HB.out; (repeat' (first | (with_reducible exact Below.refl _ _) | (with_reducible assumption) | (with_reducible refine Below.al ?_ _) | (with_reducible refine Below.drew ?_) | (with_reducible refine Below.drN ?_ _) | (with_reducible refine Below.via (by with_reducible assumption) ?_) | (with_reducible refine Below.setc ?_ ?_ _) | (with_reducible exact Nat.le_refl _) | (simp; done) | (simp; omega))), by have := hb.size; omega, fun j u h => ?_⟩, by simp [intOf]; omega⟩
        exact (hb.cell (p := ⟨w.heap.size, j, none⟩) hz).trans (HX.out j u h)
    · have hk' : k = l.length := by omega
      have HK := Lib.hid hk'; clear hk'
      go_wp2
      go_ret
      exact ⟨ret_int (idx_none (by have h := HA.out; rwa [HK.out, List.take_length] at h)), HB.out⟩
set_option maxHeartbeats 400000 in
theorem Contains_Op_any (A : Option Addr) (c : Nat) (l : List O3) (x y z : Int) (w : World) (hl : l.length ≤ maxLen) (hR : RdO w w.heap.size A l) :
    Calls Try.prog 69 #[.slice A l.length c, .agg #[.int .i64 x, .int .i64 y, .int .i64 z]] w fun e w' => e = .returned (.bool (l.any (fun o => O3.eqb ⟨x, y, z⟩ o))) ∧ Below w.heap.size w w' := by
  have hR1 := Lib.hid (show RdO (w.alloc (.cells #[.int .i64 x, .int .i64 y, .int .i64 z] 44)) (w.alloc (.cells #[.int .i64 x, .int .i64 y, .int .i64 z] 44)).heap.size A l from hR.on (by (repeat' (first | (with_reducible exact Below.refl _ _) | (with_reducible assumption) | (with_reducible refine Below.al ?_ _) | (with_reducible refine Below.drew ?_) | (with_reducible refine Below.drN ?_ _) | (with_reducible refine Below.via (by with_reducible assumption) ?_) | (with_reducible refine Below.setc ?_ ?_ _) | (with_reducible exact Nat.le_refl _) | (simp; done) | (simp; omega)))))
  clear hR
  go_enter Try.func69, Try.ntmps69
  go_wp2_with (go_at_call 87; refine (Index_Op_any _ _ _ _ _ _ _ hl hR1.out).mono ?_; rintro e w1 ⟨rfl, hb1⟩)
  go_ret
  exact ⟨ret_bool (idx_any _ _), by (repeat' (first | (with_reducible exact Below.refl _ _) | (with_reducible assumption) | (with_reducible refine Below.al ?_ _) | (with_reducible refine Below.drew ?_) | (with_reducible refine Below.drN ?_ _) | (with_reducible refine Below.via (by with_reducible assumption) ?_) | (with_reducible refine Below.setc ?_ ?_ _) | (with_reducible exact Nat.le_refl _) | (simp; done) | (simp; omega)))⟩
theorem Contains_Op_take (A : Option Addr) (c : Nat) (l : List O3) (k : Nat) (x y z : Int) (w : World) (hl : l.length ≤ maxLen) (hR : RdO w w.heap.size A l) (hk : k ≤ l.length) :
    Calls Try.prog 69 #[.slice A k c, .agg #[.int .i64 x, .int .i64 y, .int .i64 z]] w fun e w' => e = .returned (.bool ((l.take k).any (fun o => O3.eqb ⟨x, y, z⟩ o))) ∧ Below w.heap.size w w' := by
  have h := Contains_Op_any A c (l.take k) x y z w (by rw [take_len hk]; omega) (hR.take k)
  rwa [take_len hk] at h

/-! ### HasBlind -/
/-- In the first j operations there is a read of what operation k writes. -/
def readB (l : List O3) (j : Nat) (t x : Int) : Bool := (l.take j).any fun p => p.tx == t && (p.kind == 0 && p.item == x)
theorem readB_eq (l : List O3) (j : Nat) (t x : Int) : ((l.take j).any fun o => O3.eqb ⟨t, 0, x⟩ o) = readB l j t x := by
  unfold readB
  congr 1
  funext p
  simp only [O3.eqb]
  rw [BEq.comm (a := t), BEq.comm (a := (0 : Int)), BEq.comm (a := x)]
theorem readB_succ {l : List O3} {j : Nat} (hj : j < l.length) (t x : Int) : readB l (j + 1) t x = (readB l j t x || (l[j].tx == t && (l[j].kind == 0 && l[j].item == x))) := by
  unfold readB
  rw [List.take_succ_eq_append_getElem hj, List.any_append]; simp only [List.any_cons, List.any_nil, Bool.or_false]
def BlindAt (l : List O3) (k : Nat) : Prop := ∃ h : k < l.length, l[k].kind = 1 ∧ readB l k l[k].tx l[k].item = false
def BlindP (l : List O3) : Prop := ∃ k, BlindAt l k

set_option maxHeartbeats 1000000 in
theorem impl_HasBlind_any (A : Option Addr) (c : Nat) (l : List O3) (w : World) (hl' : l.length ≤ maxLen) (hl : l.length ≤ 1048576) (hc : l.length ≤ c) (hR : RdO w w.heap.size A l) :
    Calls Try.prog 31 #[.slice A l.length c] w fun e w' => e = .returned (.bool (tt (ValidP l) && tt (BlindP (comL l)))) ∧ Below w.heap.size w w' := by
  have HM := Lib.hid hl'; clear hl'
  rcases Bool.eq_false_or_eq_true (tt (ValidP l)) with hv | hv
  all_goals have HV := Lib.hid hv; clear hv
  · have hLl := comL_len l
    obtain ⟨L, hL⟩ : ∃ L, comL l = L := ⟨_, rfl⟩
    rw [hL] at hLl ⊢
    have HLm := Lib.hid (show L.length ≤ maxLen by unfold maxLen; omega)
    have HL := Lib.hid hL; clear hL
    go_enter Try.func31, Try.ntmps31
    go_wp2_with (go_at_call 18; refine (impl_ValidSchedule_any _ _ _ _ HM.out hc hR).mono ?_; rintro e w1 ⟨rfl, hb1⟩; rw [HV.out])
    refine (impl_committedOf_any _ _ _ _ hl (hR.on hb1)).mono ?_
    rintro e w2 ⟨⟨v, rfl, hO⟩, hb2⟩
    rw [HL.out] at hO
    obtain ⟨A2, c2, rfl, ⟨hc2, -⟩, hR2, -⟩ := hO.reads
    have HR2 := Lib.hid hR2; clear hR2 hO
    go_wp2_with fail
    have hb0 : Below w.heap.size w w2 := by (repeat' (first | (with_reducible exact Below.refl _ _) | (with_reducible assumption) | (with_reducible refine Below.al ?_ _) | (with_reducible refine Below.drew ?_) | (with_reducible refine Below.drN ?_ _) | (with_reducible refine Below.via (by with_reducible assumption) ?_) | (with_reducible refine Below.setc ?_ ?_ _) | (with_reducible exact Nat.le_refl _) | (simp; done) | (simp; omega)))
    have HB0 := Lib.hid hb0; clear hb0 hb1 hb2
    go_loopw [13] (fun i wr => ∃ k : Nat, k ≤ L.length ∧ i = .int .i64 k ∧ (∀ j, j < k → ¬ BlindAt L j) ∧ Below w2.heap.size w2 wr) (fun i _ => L.length - (intOf i).toNat)
    case atStart => exact ⟨0, Nat.zero_le _, rfl, fun j h => by omega, Below.refl _ _⟩
    case round =>
      obtain ⟨k, hk, rfl, hall, hbw⟩ := hrel
      have HA := Lib.hid hall; clear hall
      have HB := Lib.hid hbw; clear hbw
      by_cases hlt : k < L.length
      · obtain ⟨b, off, rfl, hb', h0, h1, h2⟩ := (HR2.out.on HB.out).at_ hlt
        have hkc : k ≤ c2 := by omega
        rcases and2 (L[k].kind == 1) (readB L k L[k].tx L[k].item) with e1 | ⟨e1, e2⟩ | ⟨e1, e2⟩
        · go_wp2_with fail
          ((first | (with_reducible refine wp_region_from (by with_reducible assumption) follows (by kernel_rfl) ?_) | (refine wp_region_aft follows (by kernel_rfl) ?_)); (repeat (go_big_quiet_step (fail))); refine wpQuiet_nil ?_; intro _ hw'; obtain ⟨⟨w1, hb⟩, rfl⟩ := hw'; (try dsimp only); first | (replace hb := Below.via hb (by with_reducible assumption); (try clear hbc hbf hbz); obtain ⟨hbc, hbf, hbz⟩ := bcell hb) | (obtain ⟨hbc, hbf, hbz⟩ := bcell hb))
          go_wp2
          exact ⟨⟨k + 1, by omega, by go_num, all_below_succ HA.out (fun ⟨_, g1, _⟩ => by rw [g1] at e1; simp at e1), by have hbw := HB.out; (repeat' (first | (with_reducible exact Below.refl _ _) | (with_reducible assumption) | (with_reducible refine Below.al ?_ _) | (with_reducible refine Below.drew ?_) | (with_reducible refine Below.drN ?_ _) | (with_reducible refine Below.via (by with_reducible assumption) ?_) | (with_reducible refine Below.setc ?_ ?_ _) | (with_reducible exact Nat.le_refl _) | (simp; done) | (simp; omega)))⟩, by simp [intOf]; omega⟩
        · rw [← readB_eq] at e2
          have E2 := Lib.hid e2; clear e2
          go_wp2_with fail
          ((first | (with_reducible refine wp_region_from (by with_reducible assumption) follows (by kernel_rfl) ?_) | (refine wp_region_aft follows (by kernel_rfl) ?_)); (repeat (go_big_quiet_step ((go_at_call 69; exact aftb (Contains_Op_take _ _ L k _ _ _ _ HLm.out ((HR2.out.on HB.out).alloc (Nat.le_refl _) _ |>.more (by simp) |>.on (After.below _)) (by omega)) E2.out)))); refine wpQuiet_nil ?_; intro _ hw'; obtain ⟨⟨w1, hb⟩, rfl⟩ := hw'; (try dsimp only); first | (replace hb := Below.via hb (by with_reducible assumption); (try clear hbc hbf hbz); obtain ⟨hbc, hbf, hbz⟩ := bcell hb) | (obtain ⟨hbc, hbf, hbz⟩ := bcell hb))
          go_wp2
          go_ret
          have h : BlindP L := ⟨k, hlt, by simpa using e1, by rw [← readB_eq]; exact E2.out⟩
          exact ⟨ret_bool (by rw [HV.out, tt_true h]; rfl), by have hbw := HB.out; have hb0 := HB0.out; (repeat' (first | (with_reducible exact Below.refl _ _) | (with_reducible assumption) | (with_reducible refine Below.al ?_ _) | (with_reducible refine Below.drew ?_) | (with_reducible refine Below.drN ?_ _) | (with_reducible refine Below.via (by with_reducible assumption) ?_) | (with_reducible refine Below.setc ?_ ?_ _) | (with_reducible exact Nat.le_refl _) | (simp; done) | (simp; omega)))⟩
        · rw [← readB_eq] at e2
          have E2 := Lib.hid e2; clear e2
          go_wp2_with fail
          ((first | (with_reducible refine wp_region_from (by with_reducible assumption) follows (by kernel_rfl) ?_) | (refine wp_region_aft follows (by kernel_rfl) ?_)); (repeat (go_big_quiet_step ((go_at_call 69; exact aftb (Contains_Op_take _ _ L k _ _ _ _ HLm.out ((HR2.out.on HB.out).alloc (Nat.le_refl _) _ |>.more (by simp) |>.on (After.below _)) (by omega)) E2.out)))); refine wpQuiet_nil ?_; intro _ hw'; obtain ⟨⟨w1, hb⟩, rfl⟩ := hw'; (try dsimp only); first | (replace hb := Below.via hb (by with_reducible assumption); (try clear hbc hbf hbz); obtain ⟨hbc, hbf, hbz⟩ := bcell hb) | (obtain ⟨hbc, hbf, hbz⟩ := bcell hb))
          go_wp2
          exact ⟨⟨k + 1, by omega, by go_num, all_below_succ HA.out (fun ⟨_, _, g2⟩ => by rw [← readB_eq, E2.out] at g2; cases g2), by have hbw := HB.out; (repeat' (first | (with_reducible exact Below.refl _ _) | (with_reducible assumption) | (with_reducible refine Below.al ?_ _) | (with_reducible refine Below.drew ?_) | (with_reducible refine Below.drN ?_ _) | (with_reducible refine Below.via (by with_reducible assumption) ?_) | (with_reducible refine Below.setc ?_ ?_ _) | (with_reducible exact Nat.le_refl _) | (simp; done) | (simp; omega)))⟩, by simp [intOf]; omega⟩
      · have hk' : k = L.length := by omega
        have HK := Lib.hid hk'; clear hk'
        go_wp2
        go_ret
        have h : ¬ BlindP L := fun ⟨j, h⟩ => HA.out j (by rw [HK.out]; exact h.1) h
        exact ⟨ret_bool (by rw [HV.out, tt_false h]; rfl), by have hbw := HB.out; have hb0 := HB0.out; (repeat' (first | (with_reducible exact Below.refl _ _) | (with_reducible assumption) | (with_reducible refine Below.al ?_ _) | (with_reducible refine Below.drew ?_) | (with_reducible refine Below.drN ?_ _) | (with_reducible refine Below.via (by with_reducible assumption) ?_) | (with_reducible refine Below.setc ?_ ?_ _) | (with_reducible exact Nat.le_refl _) | (simp; done) | (simp; omega)))⟩
  · go_enter Try.func31, Try.ntmps31
    go_wp2_with (go_at_call 18; refine (impl_ValidSchedule_any _ _ _ _ HM.out hc hR).mono ?_; rintro e w1 ⟨rfl, hb1⟩; rw [HV.out])
    go_ret
    exact ⟨ret_bool (by rw [HV.out]; rfl), by (repeat' (first | (with_reducible exact Below.refl _ _) | (with_reducible assumption) | (with_reducible refine Below.al ?_ _) | (with_reducible refine Below.drew ?_) | (with_reducible refine Below.drN ?_ _) | (with_reducible refine Below.via (by with_reducible assumption) ?_) | (with_reducible refine Below.setc ?_ ?_ _) | (with_reducible exact Nat.le_refl _) | (simp; done) | (simp; omega)))⟩
set_option maxHeartbeats 4000000 in
theorem spec_HasBlind_any (A : Option Addr) (c : Nat) (l : List O3) (w : World) (hl' : l.length ≤ maxLen) (hl : l.length ≤ 1048576) (hR : RdO w w.heap.size A l) :
    Calls Try.prog 30 #[.slice A l.length c] w fun e w' => e = .returned (.bool (tt (ValidP l) && tt (BlindP (comL l)))) ∧ Below w.heap.size w w' := by
  have HM := Lib.hid hl'; clear hl'
  rcases Bool.eq_false_or_eq_true (tt (ValidP l)) with hv | hv
  all_goals have HV := Lib.hid hv; clear hv
  · have hLl := comL_len l
    obtain ⟨L, hL⟩ : ∃ L, comL l = L := ⟨_, rfl⟩
    rw [hL] at hLl ⊢
    have HLm := Lib.hid (show L.length ≤ maxLen by unfold maxLen; omega)
    have HL := Lib.hid hL; clear hL
    go_enter Try.func30, Try.ntmps30
    go_wp2_with (go_at_call 50; refine (spec_validSchedule_any _ _ _ _ HM.out hR).mono ?_; rintro e w1 ⟨rfl, hb1⟩; rw [HV.out])
    refine (spec_committed_any _ _ _ _ hl (hR.on hb1)).mono ?_
    rintro e w2 ⟨⟨v, rfl, hO⟩, hb2⟩
    rw [HL.out] at hO
    obtain ⟨A2, c2, rfl, -, hR2, -⟩ := hO.reads
    have HR2 := Lib.hid hR2; clear hR2 hO
    go_wp2_with fail
    have hb0 : Below w.heap.size w w2 := by (repeat' (first | (with_reducible exact Below.refl _ _) | (with_reducible assumption) | (with_reducible refine Below.al ?_ _) | (with_reducible refine Below.drew ?_) | (with_reducible refine Below.drN ?_ _) | (with_reducible refine Below.via (by with_reducible assumption) ?_) | (with_reducible refine Below.setc ?_ ?_ _) | (with_reducible exact Nat.le_refl _) | (simp; done) | (simp; omega)))
    have HB0 := Lib.hid hb0; clear hb0 hb1 hb2
    go_loopw [4] (fun i wr => ∃ k : Nat, k ≤ L.length ∧ i = .int .i64 k ∧ (∀ j, j < k → ¬ BlindAt L j) ∧ Below w2.heap.size w2 wr) (fun i _ => L.length - (intOf i).toNat)
    case atStart => exact ⟨0, Nat.zero_le _, rfl, fun j h => by omega, Below.refl _ _⟩
    case round =>
      obtain ⟨k, hk, rfl, hall, hbw⟩ := hrel
      have HA := Lib.hid hall; clear hall
      have HB := Lib.hid hbw; clear hbw
      by_cases hlt : k < L.length
      · go_wp2_with fail
        obtain ⟨wo, hwo⟩ : ∃ wo : World, wo = wr := ⟨_, rfl⟩
        subst hwo
        go_loopw [5, 6] (fun r i wr => ∃ j : Nat, j ≤ k ∧ i = .int .i64 j ∧ r = .bool (readB L j L[k].tx L[k].item) ∧ Below w2.heap.size w2 wr) (fun _ i _ => k - (intOf i).toNat)
        case atStart => exact ⟨0, Nat.zero_le _, rfl, rfl, HB.out⟩
        case round =>
          obtain ⟨j, hj, rfl, rfl, hbw⟩ := hrel
          have HW := Lib.hid hbw; clear hbw
          by_cases hjt : j < k
          · have hjl : j < L.length := by omega
            obtain ⟨b, off, rfl, hb, h0, h1, h2⟩ := (HR2.out.on HW.out).at_ hlt
            obtain ⟨b', off', e', hb', h0', h1', h2'⟩ := (HR2.out.on HW.out).at_ hjl
            simp only [Option.some.injEq, Addr.mk.injEq, and_true] at e'
            obtain ⟨rfl, rfl⟩ := e'
            have hs := readB_succ hjl L[k].tx L[k].item
            cases e0 : readB L j L[k].tx L[k].item
            · rcases and3 (L[j].tx == L[k].tx) (L[j].kind == 0) (L[j].item == L[k].item) with e1 | ⟨e1, e2⟩ | ⟨e1, e2, e3⟩ | ⟨e1, e2, e3⟩
              all_goals
                simp only [*, Bool.or_false, Bool.or_true, Bool.and_false, Bool.and_true, Bool.false_and, Bool.true_and] at hs
                have HS := Lib.hid hs; clear hs
                go_wp2_with fail
                ((first | (with_reducible refine wp_region_from (by with_reducible assumption) follows (by kernel_rfl) ?_) | (refine wp_region_aft follows (by kernel_rfl) ?_)); (repeat (go_big_quiet_step (fail))); refine wpQuiet_nil ?_; intro _ hw'; obtain ⟨⟨w1, hb⟩, rfl⟩ := hw'; (try dsimp only); first | (replace hb := Below.via hb (by with_reducible assumption); (try clear hbc hbf hbz); obtain ⟨hbc, hbf, hbz⟩ := bcell hb) | (obtain ⟨hbc, hbf, hbz⟩ := bcell hb))
                go_wp2
                exact ⟨⟨j + 1, by omega, by go_num, by rw [HS.out], by have hbw := HW.out; (repeat' (first | (with_reducible exact Below.refl _ _) | (with_reducible assumption) | (with_reducible refine Below.al ?_ _) | (with_reducible refine Below.drew ?_) | (with_reducible refine Below.drN ?_ _) | (with_reducible refine Below.via (by with_reducible assumption) ?_) | (with_reducible refine Below.setc ?_ ?_ _) | (with_reducible exact Nat.le_refl _) | (simp; done) | (simp; omega)))⟩, by simp [intOf]; omega⟩
            · rw [e0, Bool.true_or] at hs
              have HS := Lib.hid hs; clear hs
              go_wp2_with fail
              ((first | (with_reducible refine wp_region_from (by with_reducible assumption) follows (by kernel_rfl) ?_) | (refine wp_region_aft follows (by kernel_rfl) ?_)); (repeat (go_big_quiet_step (fail))); refine wpQuiet_nil ?_; intro _ hw'; obtain ⟨⟨w1, hb⟩, rfl⟩ := hw'; (try dsimp only); first | (replace hb := Below.via hb (by with_reducible assumption); (try clear hbc hbf hbz); obtain ⟨hbc, hbf, hbz⟩ := bcell hb) | (obtain ⟨hbc, hbf, hbz⟩ := bcell hb))
              go_wp2
              exact ⟨⟨j + 1, by omega, by go_num, by rw [HS.out], by have hbw := HW.out; (repeat' (first | (with_reducible exact Below.refl _ _) | (with_reducible assumption) | (with_reducible refine Below.al ?_ _) | (with_reducible refine Below.drew ?_) | (with_reducible refine Below.drN ?_ _) | (with_reducible refine Below.via (by with_reducible assumption) ?_) | (with_reducible refine Below.setc ?_ ?_ _) | (with_reducible exact Nat.le_refl _) | (simp; done) | (simp; omega)))⟩, by simp [intOf]; omega⟩
          · have hj' : j = k := by omega
            subst hj'
            obtain ⟨b, off, rfl, hb, h0, h1, h2⟩ := (HR2.out.on HW.out).at_ hlt
            rcases and2 (L[j].kind == 1) (readB L j L[j].tx L[j].item) with e1 | ⟨e1, e2⟩ | ⟨e1, e2⟩
            · go_wp2
              all_goals exact ⟨⟨j + 1, by omega, by go_num, all_below_succ HA.out (fun ⟨_, g1, _⟩ => by rw [g1] at e1; simp at e1), HW.out⟩, by simp [intOf]; omega⟩
            · go_wp2
              go_ret
              have h : BlindP L := ⟨j, hlt, by simpa using e1, e2⟩
              exact ⟨ret_bool (by rw [HV.out, tt_true h]; rfl), by have hbw := HW.out; have hb0 := HB0.out; (repeat' (first | (with_reducible exact Below.refl _ _) | (with_reducible assumption) | (with_reducible refine Below.al ?_ _) | (with_reducible refine Below.drew ?_) | (with_reducible refine Below.drN ?_ _) | (with_reducible refine Below.via (by with_reducible assumption) ?_) | (with_reducible refine Below.setc ?_ ?_ _) | (with_reducible exact Nat.le_refl _) | (simp; done) | (simp; omega)))⟩
            · go_wp2
              exact ⟨⟨j + 1, by omega, by go_num, all_below_succ HA.out (fun ⟨_, _, g2⟩ => by rw [e2] at g2; cases g2), HW.out⟩, by simp [intOf]; omega⟩
      · have hk' : k = L.length := by omega
        have HK := Lib.hid hk'; clear hk'
        go_wp2
        go_ret
        have h : ¬ BlindP L := fun ⟨j, h⟩ => HA.out j (by rw [HK.out]; exact h.1) h
        exact ⟨ret_bool (by rw [HV.out, tt_false h]; rfl), by have hbw := HB.out; have hb0 := HB0.out; (repeat' (first | (with_reducible exact Below.refl _ _) | (with_reducible assumption) | (with_reducible refine Below.al ?_ _) | (with_reducible refine Below.drew ?_) | (with_reducible refine Below.drN ?_ _) | (with_reducible refine Below.via (by with_reducible assumption) ?_) | (with_reducible refine Below.setc ?_ ?_ _) | (with_reducible exact Nat.le_refl _) | (simp; done) | (simp; omega)))⟩
  · go_enter Try.func30, Try.ntmps30
    go_wp2_with (go_at_call 50; refine (spec_validSchedule_any _ _ _ _ HM.out hR).mono ?_; rintro e w1 ⟨rfl, hb1⟩; rw [HV.out])
    go_ret
    exact ⟨ret_bool (by rw [HV.out]; rfl), by (repeat' (first | (with_reducible exact Below.refl _ _) | (with_reducible assumption) | (with_reducible refine Below.al ?_ _) | (with_reducible refine Below.drew ?_) | (with_reducible refine Below.drN ?_ _) | (with_reducible refine Below.via (by with_reducible assumption) ?_) | (with_reducible refine Below.setc ?_ ?_ _) | (with_reducible exact Nat.le_refl _) | (simp; done) | (simp; omega)))⟩
end Go.Proofs.Ytgoedkdpanoggaa
