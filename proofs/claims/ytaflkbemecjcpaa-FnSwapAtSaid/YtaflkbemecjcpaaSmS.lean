/- Two schedules with one order of conflicts: contracts of sameOps, placeOf, numberOf and the reference's IsSame. -/
import Derived.Test.YtaflkbemecjcpaaSmM
import Derived.Test.YtaflkbemecjcpaaPl
namespace Go.Proofs.Ytaflkbemecjcpaa
set_option linter.unusedSimpArgs false
set_option linter.unusedVariables false
open Go.RowKit
@[go_sem ↓ high] theorem run_eql_O (a b c a' b' c' : Int) (W : World) : (binOp .eql 40 (.agg #[.int .i64 a, .int .i64 b, .int .i64 c]) (.agg #[.int .i64 a', .int .i64 b', .int .i64 c'])).run Try.prog W = .ok (.bool (O3.eqb ⟨a, b, c⟩ ⟨a', b', c'⟩)) W := by
  rw [run_eql_struct]
  cases e0 : (a == a') <;> cases e1 : (b == b') <;> cases e2 : (c == c') <;> simp [go_sem, e0, e1, e2, O3.eqb]
@[go_sem ↓ high] theorem run_neq_O (a b c a' b' c' : Int) (W : World) : (binOp .neq 40 (.agg #[.int .i64 a, .int .i64 b, .int .i64 c]) (.agg #[.int .i64 a', .int .i64 b', .int .i64 c'])).run Try.prog W = .ok (.bool (!(O3.eqb ⟨a, b, c⟩ ⟨a', b', c'⟩))) W := by
  rw [run_neq_struct]
  cases e0 : (a == a') <;> cases e1 : (b == b') <;> cases e2 : (c == c') <;> simp [go_sem, e0, e1, e2, O3.eqb]
set_option maxRecDepth 100000 in
set_option maxHeartbeats 1000000 in
theorem Equal_O_any (A A' : Option Addr) (c c' : Nat) (x y : List O3) (w : World) (hx : x.length ≤ maxLen) (hy : y.length ≤ maxLen) (hR : RdO w w.heap.size A x) (hR' : RdO w w.heap.size A' y) :
    Calls Try.prog 80 #[.slice A x.length c, .slice A' y.length c'] w fun e w' => e = .returned (.bool (eqLB x y)) ∧ Below w.heap.size w w' := by
  by_cases hl : x.length = y.length
  · have hxy : ((x.length : Int) != (y.length : Int)) = false := by rw [hl]; simp
    have HL := Lib.hid hl
    unfold maxLen at hx
    clear hy hl
    go_enter Try.func80, Try.ntmps80
    go_wp2_with fail
    go_loopw [5, 13] (fun _ v13 wr => ∃ k : Nat, k ≤ x.length ∧ v13 = .int .i64 k ∧ (∀ j (hj : j < x.length) (hj' : j < y.length), j < k → O3.eqb x[j] y[j] = true) ∧ Below w.heap.size w wr) (fun _ v13 _ => x.length - (intOf v13).toNat)
    case atStart => exact ⟨0, Nat.zero_le _, rfl, fun j _ _ h => by omega, Below.refl _ _⟩
    case round =>
      obtain ⟨k, hk, rfl, hall, hbw⟩ := hrel
      have HA := Lib.hid hall; clear hall
      have HB := Lib.hid hbw; clear hbw
      by_cases hlt : k < x.length
      · have hlt' : k < y.length := by have := HL.out; omega
        obtain ⟨b, off, rfl, hb, h0, h1, h2⟩ := (hR.on HB.out).at_ hlt
        obtain ⟨b', off', rfl, hb', h0', h1', h2'⟩ := (hR'.on HB.out).at_ hlt'
        cases e : O3.eqb x[k] y[k]
        · have HN := Lib.hid (eqLB_at hlt hlt' e)
          have e' : O3.eqb ⟨x[k].tx, x[k].kind, x[k].item⟩ ⟨y[k].tx, y[k].kind, y[k].item⟩ = false := e
          clear e
          go_wp2_with fail
          ((first | (with_reducible refine wp_region_from (by with_reducible assumption) follows (by kernel_rfl) ?_) | (refine wp_region_aft follows (by kernel_rfl) ?_)); (repeat (go_big_quiet_step (fail))); refine wpQuiet_nil ?_; intro _ hw'; obtain ⟨⟨w1, hb⟩, rfl⟩ := hw'; (try dsimp only); first | (replace hb := Below.via hb (by with_reducible assumption); (try clear hbc hbf hbz); obtain ⟨hbc, hbf, hbz⟩ := bcell hb) | (obtain ⟨hbc, hbf, hbz⟩ := bcell hb))
          go_wp2
          go_ret
          exact ⟨ret_bool HN.out.symm, Below.trans HB.out (hb.mono HB.out.size)⟩
        · have HY := Lib.hid e
          have e' : O3.eqb ⟨x[k].tx, x[k].kind, x[k].item⟩ ⟨y[k].tx, y[k].kind, y[k].item⟩ = true := e
          clear e
          go_wp2_with fail
          ((first | (with_reducible refine wp_region_from (by with_reducible assumption) follows (by kernel_rfl) ?_) | (refine wp_region_aft follows (by kernel_rfl) ?_)); (repeat (go_big_quiet_step (fail))); refine wpQuiet_nil ?_; intro _ hw'; obtain ⟨⟨w1, hb⟩, rfl⟩ := hw'; (try dsimp only); first | (replace hb := Below.via hb (by with_reducible assumption); (try clear hbc hbf hbz); obtain ⟨hbc, hbf, hbz⟩ := bcell hb) | (obtain ⟨hbc, hbf, hbz⟩ := bcell hb))
          go_wp2
          exact ⟨⟨k + 1, by omega, by go_num, fun j hj hj' hjk => by
            by_cases h : j = k
            · subst h; exact HY.out
            · exact HA.out j hj hj' (by omega), Below.trans HB.out (hb.mono HB.out.size)⟩, by simp [intOf]; omega⟩
      · have HN := Lib.hid (eqLB_all HL.out (fun j hj hj' => HA.out j hj hj' (by omega)))
        go_wp2
        go_ret
        exact ⟨ret_bool HN.out.symm, HB.out⟩
  · have hxy : ((x.length : Int) != (y.length : Int)) = true := by simp; omega
    have HN := Lib.hid (eqLB_len hl)
    clear hl
    go_enter Try.func80, Try.ntmps80
    go_wp2
    go_ret
    exact ⟨ret_bool HN.out.symm, Below.refl _ _⟩
theorem oL_le (l : List O3) (t : Int) : (oL l t).length ≤ l.length := List.length_filter_le _ _
set_option maxRecDepth 100000 in
set_option maxHeartbeats 2000000 in
theorem spec_sameOps_any (A A' : Option Addr) (c c' : Nat) (a b : List O3) (w : World) (ha : a.length ≤ 1048576) (hbl : b.length ≤ 1048576) (hR : RdO w w.heap.size A a) (hR' : RdO w w.heap.size A' b) :
    Calls Try.prog 50 #[.slice A a.length c, .slice A' b.length c'] w fun e w' => e = .returned (.bool (sameB a b)) ∧ Below w.heap.size w w' := by
  go_enter Try.func50, Try.ntmps50
  go_wp2_with fail
  go_loopw [5, 6, 7, 8] (fun v5 _ _ _ wr => ∃ t : Nat, t ≤ 4 ∧ v5 = .int .i64 t ∧ ((List.range 4).take t).all (fun t : Nat => eqLB (oL a t) (oL b t)) = true ∧ Below w.heap.size w wr) (fun v5 _ _ _ _ => 4 - (intOf v5).toNat)
  case atStart => exact ⟨0, Nat.zero_le _, rfl, rfl, Below.refl _ _⟩
  case round =>
    obtain ⟨t, ht, rfl, hall, hbw⟩ := hrel
    have HA := Lib.hid hall; clear hall
    have HB := Lib.hid hbw; clear hbw
    by_cases hlt : t < 4
    · have HT := Lib.hid (show t < (List.range 4).length by simpa using hlt)
      have ha1 := oL_le a t
      have hb1 := oL_le b t
      go_wp2_with fail
      refine (spec_opsOf_any _ _ a _ _ ha (hR.on HB.out)).mono ?_
      rintro e w1 ⟨⟨v1, rfl, hO1⟩, hb1'⟩
      have B1 := Lib.hid (Below.trans HB.out (hb1'.mono HB.out.size))
      go_wp2_with fail
      refine (spec_opsOf_any _ _ b _ _ hbl (hR'.on B1.out)).mono ?_
      rintro e w2 ⟨⟨v2, rfl, hO2⟩, hb2'⟩
      have B2 := Lib.hid (Below.trans B1.out (hb2'.mono B1.out.size))
      obtain ⟨A1, c1, rfl, _⟩ := hO1.reads
      obtain ⟨A2, c2, rfl, _⟩ := hO2.reads
      have R1 := Lib.hid (OwnO.rd (OwnO.on hO1 hb2'))
      have R2 := Lib.hid (OwnO.rd hO2)
      clear hO1 hO2 hb1' hb2'
      obtain ⟨x, hx⟩ : ∃ x, x = oL a t := ⟨_, rfl⟩
      obtain ⟨y, hy⟩ : ∃ y, y = oL b t := ⟨_, rfl⟩
      have e1 : (List.filter (fun o => o.tx == (t : Int)) a) = x := hx.symm
      have e2 : (List.filter (fun o => o.tx == (t : Int)) b) = y := hy.symm
      rw [← hx] at ha1
      rw [← hy] at hb1
      rw [e1] at R1 ⊢
      rw [e2] at R2 ⊢
      have HXY := Lib.hid (show eqLB (oL a t) (oL b t) = eqLB x y by rw [hx, hy])
      clear hx hy e1 e2
      by_cases hl : x.length = y.length
      · have hxy : ((x.length : Int) != (y.length : Int)) = false := by rw [hl]; simp
        have HL := Lib.hid hl
        obtain ⟨wo, hwo⟩ : ∃ wo : World, wo = w2 := ⟨_, rfl⟩
        rw [← hwo] at R1 R2 B2 ⊢
        clear hl hwo
        go_wp2_with fail
        go_loopw [8] (fun v8 wr => ∃ k : Nat, k ≤ x.length ∧ v8 = .int .i64 k ∧ (∀ j (hj : j < x.length) (hj' : j < y.length), j < k → O3.eqb x[j] y[j] = true) ∧ Below wo.heap.size wo wr) (fun v8 _ => x.length - (intOf v8).toNat)
        case atStart => exact ⟨0, Nat.zero_le _, rfl, fun j _ _ h => by omega, Below.refl _ _⟩
        case round =>
          obtain ⟨k, hk, rfl, hall, hbw⟩ := hrel
          have HA2 := Lib.hid hall; clear hall
          have HB2 := Lib.hid hbw; clear hbw
          by_cases hlt2 : k < x.length
          · have hlt' : k < y.length := by have := HL.out; omega
            obtain ⟨b1, off1, rfl, hbb, h0, h1, h2⟩ := (R1.out.on HB2.out).at_ hlt2
            obtain ⟨b1', off1', rfl, hbb', h0', h1', h2'⟩ := (R2.out.on HB2.out).at_ hlt'
            cases e : O3.eqb x[k] y[k]
            · have HN := Lib.hid (eqLB_at hlt2 hlt' e)
              have e' : O3.eqb ⟨x[k].tx, x[k].kind, x[k].item⟩ ⟨y[k].tx, y[k].kind, y[k].item⟩ = false := e
              clear e
              go_wp2_with fail
              ((first | (with_reducible refine wp_region_from (by with_reducible assumption) follows (by kernel_rfl) ?_) | (refine wp_region_aft follows (by kernel_rfl) ?_)); (repeat (go_big_quiet_step (fail))); refine wpQuiet_nil ?_; intro _ hw'; obtain ⟨⟨w1, hb⟩, rfl⟩ := hw'; (try dsimp only); first | (replace hb := Below.via hb (by with_reducible assumption); (try clear hbc hbf hbz); obtain ⟨hbc, hbf, hbz⟩ := bcell hb) | (obtain ⟨hbc, hbf, hbz⟩ := bcell hb))
              go_wp2
              go_ret
              exact ⟨ret_bool (same_no HT.out (HXY.out.trans HN.out)).symm, Below.trans B2.out ((Below.trans HB2.out (hb.mono HB2.out.size)).mono B2.out.size)⟩
            · have HY := Lib.hid e
              have e' : O3.eqb ⟨x[k].tx, x[k].kind, x[k].item⟩ ⟨y[k].tx, y[k].kind, y[k].item⟩ = true := e
              clear e
              go_wp2_with fail
              ((first | (with_reducible refine wp_region_from (by with_reducible assumption) follows (by kernel_rfl) ?_) | (refine wp_region_aft follows (by kernel_rfl) ?_)); (repeat (go_big_quiet_step (fail))); refine wpQuiet_nil ?_; intro _ hw'; obtain ⟨⟨w1, hb⟩, rfl⟩ := hw'; (try dsimp only); first | (replace hb := Below.via hb (by with_reducible assumption); (try clear hbc hbf hbz); obtain ⟨hbc, hbf, hbz⟩ := bcell hb) | (obtain ⟨hbc, hbf, hbz⟩ := bcell hb))
              go_wp2
              exact ⟨⟨k + 1, by omega, by go_num, fun j hj hj' hjk => by
                by_cases h : j = k
                · subst h; exact HY.out
                · exact HA2.out j hj hj' (by omega), Below.trans HB2.out (hb.mono HB2.out.size)⟩, by simp [intOf]; omega⟩
          · have HN := Lib.hid (eqLB_all HL.out (fun j hj hj' => HA2.out j hj hj' (by omega)))
            go_wp2
            exact ⟨⟨t + 1, by omega, by go_num, same_to HT.out HA.out (HXY.out.trans HN.out), Below.trans B2.out (HB2.out.mono B2.out.size)⟩, by simp [intOf]; omega⟩
      · have hxy : ((x.length : Int) != (y.length : Int)) = true := by simp; omega
        have HN := Lib.hid (eqLB_len hl)
        clear hl
        go_wp2
        go_ret
        exact ⟨ret_bool (same_no HT.out (HXY.out.trans HN.out)).symm, B2.out⟩
    · have ht' : t = 4 := by omega
      have HT := Lib.hid ht'; clear ht'
      go_wp2
      go_ret
      exact ⟨ret_bool (by have h := HA.out; rw [HT.out] at h; exact h.symm), HB.out⟩
set_option maxRecDepth 100000 in
set_option maxHeartbeats 2000000 in
theorem impl_sameOps_any (A A' : Option Addr) (c c' : Nat) (a b : List O3) (w : World) (ha : a.length ≤ 1048576) (hbl : b.length ≤ 1048576) (hR : RdO w w.heap.size A a) (hR' : RdO w w.heap.size A' b) :
    Calls Try.prog 54 #[.slice A a.length c, .slice A' b.length c'] w fun e w' => e = .returned (.bool (sameB a b)) ∧ Below w.heap.size w w' := by
  go_enter Try.func54, Try.ntmps54
  go_wp2_with fail
  go_loopw [5, 6] (fun _ v6 wr => ∃ t : Nat, t ≤ 4 ∧ v6 = .int .i64 t ∧ ((List.range 4).take t).all (fun t : Nat => eqLB (oL a t) (oL b t)) = true ∧ Below w.heap.size w wr) (fun _ v6 _ => 4 - (intOf v6).toNat)
  case atStart => exact ⟨0, Nat.zero_le _, rfl, rfl, Below.refl _ _⟩
  case round =>
    obtain ⟨t, ht, rfl, hall, hbw⟩ := hrel
    have HA := Lib.hid hall; clear hall
    have HB := Lib.hid hbw; clear hbw
    by_cases hlt : t < 4
    · have HT := Lib.hid (show t < (List.range 4).length by simpa using hlt)
      have ha1 := oL_le a t
      have hb1 := oL_le b t
      have HX := Lib.hid (show (oL a t).length ≤ maxLen by unfold maxLen; omega)
      have HY := Lib.hid (show (oL b t).length ≤ maxLen by unfold maxLen; omega)
      obtain ⟨r, hr⟩ : ∃ r, r = eqLB (oL a t) (oL b t) := ⟨_, rfl⟩
      have HRE := Lib.hid hr
      go_wp2_with fail
      refine (impl_opsOf_any _ _ a _ _ ha (hR.on HB.out)).mono ?_
      rintro e w1 ⟨⟨v1, rfl, hO1⟩, hb1'⟩
      have B1 := Lib.hid (Below.trans HB.out (hb1'.mono HB.out.size))
      go_wp2_with fail
      refine (impl_opsOf_any _ _ b _ _ hbl (hR'.on B1.out)).mono ?_
      rintro e w2 ⟨⟨v2, rfl, hO2⟩, hb2'⟩
      have B2 := Lib.hid (Below.trans B1.out (hb2'.mono B1.out.size))
      obtain ⟨A1, c1, rfl, _⟩ := hO1.reads
      obtain ⟨A2, c2, rfl, _⟩ := hO2.reads
      have R1 := Lib.hid (OwnO.rd (OwnO.on hO1 hb2'))
      have R2 := Lib.hid (OwnO.rd hO2)
      clear hO1 hO2 hb1' hb2'
      cases hr2 : r
      · have HF := Lib.hid (show eqLB (oL a t) (oL b t) = false by rw [← HRE.out, hr2])
        clear hr hr2
        go_wp2_with fail
        refine (Equal_O_any A1 A2 c1 c2 (oL a t) (oL b t) _ HX.out HY.out R1.out R2.out).mono ?_
        rintro e w3 ⟨rfl, hb3⟩
        rw [HF.out]
        go_wp2
        go_ret
        exact ⟨ret_bool (same_no HT.out (by simpa using HF.out)).symm, Below.trans B2.out (hb3.mono B2.out.size)⟩
      · have HF := Lib.hid (show eqLB (oL a t) (oL b t) = true by rw [← HRE.out, hr2])
        clear hr hr2
        go_wp2_with fail
        refine (Equal_O_any A1 A2 c1 c2 (oL a t) (oL b t) _ HX.out HY.out R1.out R2.out).mono ?_
        rintro e w3 ⟨rfl, hb3⟩
        rw [HF.out]
        go_wp2
        exact ⟨⟨t + 1, by omega, by go_num, same_to HT.out HA.out HF.out, Below.trans B2.out (hb3.mono B2.out.size)⟩, by simp [intOf]; omega⟩
    · have ht' : t = 4 := by omega
      have HT := Lib.hid ht'; clear ht'
      go_wp2
      go_ret
      exact ⟨ret_bool (by have h := HA.out; rw [HT.out] at h; exact h.symm), HB.out⟩
set_option maxRecDepth 100000 in
set_option maxHeartbeats 1000000 in
theorem spec_placeOf_any (A : Option Addr) (c : Nat) (l : List O3) (t : Int) (k0 : Nat) (w : World) (hl : l.length ≤ 1048576) (hk0 : k0 ≤ 1048576) (hR : RdO w w.heap.size A l) :
    Calls Try.prog 52 #[.slice A l.length c, .int .i64 t, .int .i64 k0] w fun e w' => e = .returned (.int .i64 (placeV l t k0)) ∧ w = w' := by
  have HL := Lib.hid (show (List.range l.length).length = l.length by simp)
  go_enter Try.func52, Try.ntmps52
  go_wp2_with fail
  go_loop [2, 7] (fun v2 v7 => ∃ k : Nat, k ≤ l.length ∧ v7 = .int .i64 k ∧ v2 = .int .i64 ((k0 : Int) - numTo l t k) ∧ ((List.range l.length).take k).findIdx? (isP l t k0) = none) (fun _ v7 => l.length - (intOf v7).toNat)
  case atStart => exact ⟨0, Nat.zero_le _, rfl, by simp [numTo], rfl⟩
  case round =>
    obtain ⟨k, hk, rfl, rfl, hall⟩ := hrel
    have HA := Lib.hid hall; clear hall
    have hn := num_le l t k
    by_cases hlt : k < l.length
    · have hkr : k < (List.range l.length).length := by rw [HL.out]; exact hlt
      have HK := Lib.hid hkr; clear hkr
      obtain ⟨b, off, rfl, hb, h0, h1, h2⟩ := hR.at_ hlt
      cases e1 : (l[k].tx == t)
      · have HN := Lib.hid (num_no hlt e1)
        have HP := Lib.hid (idx_on HK.out HA.out (by rw [List.getElem_range]; simp only [isP, txI_eq hlt, e1]; rfl))
        go_wp2
        exact ⟨⟨k + 1, by omega, by go_num, by rw [HN.out], HP.out⟩, by simp [intOf]; omega⟩
      · have HN := Lib.hid (num_yes hlt e1)
        cases e2 : ((k0 : Int) - (numTo l t k : Int) == 0)
        · have HP := Lib.hid (idx_on (p := isP l t k0) HK.out HA.out (by rw [List.getElem_range]; simp only [isP, txI_eq hlt, e1]; rw [Bool.true_and, beq_eq_false_iff_ne]; simp at e2; omega))
          go_wp2
          exact ⟨⟨k + 1, by omega, by go_num, by rw [HN.out]; go_num, HP.out⟩, by simp [intOf]; omega⟩
        · have HP := Lib.hid (idx_hit (p := isP l t k0) HK.out HA.out (by rw [List.getElem_range]; simp only [isP, txI_eq hlt, e1]; rw [Bool.true_and, beq_iff_eq]; simp at e2; omega))
          go_wp2
          go_ret
          exact ⟨ret_int HP.out, rfl⟩
    · have hk' : k = l.length := by omega
      have HK := Lib.hid hk'; clear hk'
      go_wp2
      go_ret
      exact ⟨ret_int (idx_none (by have h := HA.out; rw [HK.out, List.take_of_length_le (by simp)] at h; exact h)), rfl⟩
set_option maxRecDepth 100000 in
set_option maxHeartbeats 1000000 in
theorem spec_numberOf_any (A : Option Addr) (c : Nat) (l : List O3) (i : Nat) (w : World) (hl : l.length ≤ 1048576) (hi : i < l.length) (hR : RdO w w.heap.size A l) :
    Calls Try.prog 53 #[.slice A l.length c, .int .i64 i] w fun e w' => e = .returned (.int .i64 (nmI l i)) ∧ Below w.heap.size w w' := by
  have HNM := Lib.hid (show nmI l i = numTo l l[i].tx i by unfold nmI; rw [txI_eq hi])
  go_enter Try.func53, Try.ntmps53
  go_wp2_with fail
  go_loopw [5, 6] (fun v5 v6 wr => ∃ k : Nat, k ≤ i ∧ v6 = .int .i64 k ∧ v5 = .int .i64 (numTo l l[i].tx k) ∧ Below w.heap.size w wr) (fun _ v6 _ => i - (intOf v6).toNat)
  case atStart => exact ⟨0, Nat.zero_le _, rfl, rfl, Below.refl _ _⟩
  case round =>
    obtain ⟨k, hk, rfl, rfl, hbw⟩ := hrel
    have HB := Lib.hid hbw; clear hbw
    have hn := num_le l l[i].tx k
    by_cases hlt : k < i
    · have hkl : k < l.length := by omega
      have HR2 := Lib.hid (hR.on HB.out)
      obtain ⟨b, off, rfl, hb, h0, h1, h2⟩ := HR2.out.at_ hkl
      obtain ⟨b', off', he, hb', s0, s1, s2⟩ := HR2.out.at_ hi
      injection he with he; injection he with he1 he2
      subst he1 he2
      cases e1 : (l[k].tx == l[i].tx)
      · have HN := Lib.hid (num_no hkl e1)
        go_wp2_with fail
        ((first | (with_reducible refine wp_region_from (by with_reducible assumption) follows (by kernel_rfl) ?_) | (refine wp_region_aft follows (by kernel_rfl) ?_)); (repeat (go_big_quiet_step (fail))); refine wpQuiet_nil ?_; intro _ hw'; obtain ⟨⟨w1, hb⟩, rfl⟩ := hw'; (try dsimp only); first | (replace hb := Below.via hb (by with_reducible assumption); (try clear hbc hbf hbz); obtain ⟨hbc, hbf, hbz⟩ := bcell hb) | (obtain ⟨hbc, hbf, hbz⟩ := bcell hb))
        go_wp2
        exact ⟨⟨k + 1, by omega, by go_num, by rw [HN.out], Below.trans HB.out (hb.mono HB.out.size)⟩, by simp [intOf]; omega⟩
      · have HN := Lib.hid (num_yes hkl e1)
        go_wp2_with fail
        ((first | (with_reducible refine wp_region_from (by with_reducible assumption) follows (by kernel_rfl) ?_) | (refine wp_region_aft follows (by kernel_rfl) ?_)); (repeat (go_big_quiet_step (fail))); refine wpQuiet_nil ?_; intro _ hw'; obtain ⟨⟨w1, hb⟩, rfl⟩ := hw'; (try dsimp only); first | (replace hb := Below.via hb (by with_reducible assumption); (try clear hbc hbf hbz); obtain ⟨hbc, hbf, hbz⟩ := bcell hb) | (obtain ⟨hbc, hbf, hbz⟩ := bcell hb))
        go_wp2
        exact ⟨⟨k + 1, by omega, by go_num, by rw [HN.out]; go_num, Below.trans HB.out (hb.mono HB.out.size)⟩, by simp [intOf]; omega⟩
    · have hk' : k = i := by omega
      have HK := Lib.hid hk'; clear hk'
      go_wp2
      go_ret
      exact ⟨ret_int ((congrArg (fun j : Nat => (numTo l l[i].tx j : Int)) HK.out).trans (by rw [HNM.out])), HB.out⟩
end Go.Proofs.Ytaflkbemecjcpaa
