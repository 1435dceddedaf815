/- Locks by a tree of items: contract of the program's IsTreeLocked, the walk. -/
import Derived.Test.YtejipiadapggmaaTlI
import Derived.Deep.CutRange
namespace Go.Proofs.Ytejipiadapggmaa
set_option linter.unusedSimpArgs false
set_option linter.unusedVariables false
open Go.RowKit
set_option maxRecDepth 100000 in
set_option maxHeartbeats 4000000 in
theorem impl_IsTreeLocked_any (A : Option Addr) (c : Nat) (l : List O3) (A' : Option Addr) (c' : Nat) (p : List Int) (w : World) (hl : l.length ≤ 1048576) (hp : p.length ≤ 1048576) (hw : ∀ n ∈ p, (Lit.int .i64 n).wf = true) (hR : RdO w w.heap.size A l) (hR' : RdI w w.heap.size A' p) :
    Calls Try.prog 25 #[.slice A l.length c, .slice A' p.length c'] w fun e w' => e = .returned (.bool (tlV l p)) ∧ Below w.heap.size w w' := by
  have HM := Lib.hid (show l.length ≤ maxLen by unfold maxLen; omega)
  cases hv : stepsB l
  · have hs : tlV l p = false := by unfold tlV; rw [hv]; rfl
    rw [hs]
    have HV := Lib.hid hv; clear hv hs
    go_enter Try.func25, Try.ntmps25
    go_wp2_with (go_at_call 31; refine (impl_ValidSteps_any _ _ _ _ HM.out hR).mono ?_; rintro e w1 ⟨rfl, hb1⟩; rw [HV.out])
    go_ret
    exact ⟨rfl, by (repeat' (first | (with_reducible exact Below.refl _ _) | (with_reducible assumption) | (with_reducible refine Below.al ?_ _) | (with_reducible refine Below.drew ?_) | (with_reducible refine Below.drN ?_ _) | (with_reducible refine Below.via (by with_reducible assumption) ?_) | (with_reducible refine Below.setc ?_ ?_ _) | (with_reducible exact Nat.le_refl _) | (simp; done) | (simp; omega)))⟩
  · have HV := Lib.hid hv
    cases ht : trB p
    · have hs : tlV l p = false := by unfold tlV; rw [ht]; simp
      rw [hs]
      have HT := Lib.hid ht; clear hv hs ht
      go_enter Try.func25, Try.ntmps25
      go_wp2_with fail
      refine (impl_ValidSteps_any _ _ l _ HM.out hR).mono ?_
      rintro e w1 ⟨rfl, hb1⟩
      rw [HV.out]
      go_wp2_with fail
      refine (impl_treeOk_any _ _ p _ hp hw (hR'.on hb1)).mono ?_
      rintro e w2 ⟨rfl, rfl⟩
      rw [HT.out]
      go_wp2_with fail
      go_ret
      exact ⟨rfl, by (repeat' (first | (with_reducible exact Below.refl _ _) | (with_reducible assumption) | (with_reducible refine Below.al ?_ _) | (with_reducible refine Below.drew ?_) | (with_reducible refine Below.drN ?_ _) | (with_reducible refine Below.via (by with_reducible assumption) ?_) | (with_reducible refine Below.setc ?_ ?_ _) | (with_reducible exact Nat.le_refl _) | (simp; done) | (simp; omega)))⟩
    · have hs : tlV l p = tlB l p := by unfold tlV; rw [hv, ht]; rfl
      rw [hs]
      have HT := Lib.hid ht
      have hlen := steps_len hv
      have HA := Lib.hid (steps_all hv)
      have HP := Lib.hid (tr_vals ht)
      have HP3 := Lib.hid HP.out.1
      clear hv hs ht
      obtain ⟨i0, hi0, hz0, hz1, hz2⟩ := info_parts info_I64
      go_enter Try.func25, Try.ntmps25
      go_wp2_with fail
      refine (impl_ValidSteps_any _ _ l _ HM.out hR).mono ?_
      rintro e w1 ⟨rfl, hb1⟩
      rw [HV.out]
      go_wp2_with fail
      refine (impl_treeOk_any _ _ p _ hp hw (hR'.on hb1)).mono ?_
      rintro e w2 ⟨rfl, rfl⟩
      rw [HT.out]
      go_wp2_with fail
      refine (impl_tableOf_any none 0 [] _ rfl (by simp) RdO.nil).mono ?_
      rintro e w3 ⟨⟨g, rfl, hgg, hT⟩, hb3⟩
      have hz1' := hb1.size
      have hz3 := hb3.size
      simp only [World.size_alloc] at hz3 hgg
      obtain ⟨g5, hg5⟩ : ∃ g5, g5 = w1.heap.size := ⟨_, rfl⟩
      have hTk0 : TkAt (w1.alloc (.cells #[.slice none 0 0, .slice none 0 0, .slice none 0 0, .slice none 0 0] 74)) w.heap.size g5 g (fun t : Nat => tkL l t 0) (fun _ => none) (fun _ => 0) := by
        refine ⟨by rw [hg5]; exact heap_alloc_new _ _, fun t ht => World.ownsRow_nil _ _ _ _, fun t u _ _ _ k hk => by simp [Value.ownBlock] at hk, fun t ht => by simp [Value.ownBlock]⟩
      have HK0 := Lib.hid (hTk0.on hb3)
      have HT0 := Lib.hid (show TabAt w3 g 96 (fun t x => heldTo l t x 0) from hT)
      have HB0 := Lib.hid (show Below w.heap.size w w3 from Below.via (hb3.mono (by simp)) (Below.al hb1 _))
      have hd1 : w.heap.size ≤ g5 := by omega
      have hd2 : w.heap.size ≤ g := by omega
      have hd3 : g5 ≠ g := by omega
      try rw [← hg5]
      clear hb1 hb3 hT hTk0 hz1' hz3 hgg hg5
      go_wp2_with fail
      go_loopw [8, 9, 21] (fun _ _ v21 wr => ∃ (k : Nat) (As : Nat → Option Addr) (cs : Nat → Nat), k ≤ l.length ∧ v21 = .int .i64 k ∧ TkAt wr w.heap.size g5 g (fun t : Nat => tkL l t k) As cs ∧ TabAt wr g 96 (fun t x => heldTo l t x k) ∧ (∀ j, j < k → tlBad l p j = false) ∧ Below w.heap.size w wr) (fun _ _ v21 _ => l.length - (intOf v21).toNat)
      case atStart => exact ⟨0, _, _, Nat.zero_le _, rfl, HK0.out, HT0.out, fun j h => by omega, HB0.out⟩
      case round =>
        clear HK0 HT0 HB0
        obtain ⟨k, As, cs, hk, rfl, hK, hT, hall, hbw⟩ := hrel
        have HK := Lib.hid hK; clear hK
        have HTb := Lib.hid hT; clear hT
        have HL := Lib.hid hall; clear hall
        have HB := Lib.hid hbw; clear hbw
        by_cases hlt : k < l.length
        · obtain ⟨b, off, rfl, hb, h0, h1, h2⟩ := (hR.on HB.out).at_ hlt
          have HBE := Lib.hid (tlBad_eq (p := p) hlt)
          obtain ⟨⟨t0, t3⟩, ⟨k0, k4⟩, ⟨x0', x3'⟩⟩ := steps_at HA.out hlt
          have HTK := Lib.hid (held_take hlt)
          obtain ⟨n, hn⟩ : ∃ n : Nat, l[k].tx = n := ⟨l[k].tx.toNat, by omega⟩
          obtain ⟨m, hm⟩ : ∃ m : Nat, l[k].item = m := ⟨l[k].item.toNat, by omega⟩
          have hn4 : (n : Int) < 4 := by omega
          have hm3 : (m : Int) < 3 := by omega
          rw [hn] at h0
          rw [hm] at h2
          rw [hn, hm] at HBE HTK
          have HNn := Lib.hid hn
          have HMm := Lib.hid hm
          obtain ⟨wo, hwo⟩ : ∃ wo : World, wo = wr := ⟨_, rfl⟩
          subst hwo
          obtain ⟨wb, hwb⟩ : ∃ wb, wb = wo.alloc (.cells #[.int .i64 n, .int .i64 l[k].kind, .int .i64 m] 49) := ⟨_, rfl⟩
          have hal : Below wo.heap.size wo wb := by rw [hwb]; (repeat' (first | (with_reducible exact Below.refl _ _) | (with_reducible assumption) | (with_reducible refine Below.al ?_ _) | (with_reducible refine Below.drew ?_) | (with_reducible refine Below.drN ?_ _) | (with_reducible refine Below.via (by with_reducible assumption) ?_) | (with_reducible refine Below.setc ?_ ?_ _) | (with_reducible exact Nat.le_refl _) | (simp; done) | (simp; omega)))
          have BX0 := Lib.hid (show Bx3 wb wo.heap.size 49 n l[k].kind m by rw [hwb]; exact Bx3.made _ _ _ _ _)
          have hzb : wo.heap.size < wb.heap.size := by rw [hwb]; simp
          have K0 := Lib.hid (HK.out.on hal)
          have T0 := Lib.hid (HTb.out.on hal)
          have B0 := Lib.hid (Below.trans HB.out (hal.mono HB.out.size))
          have hgl := HTb.out.lt
          have hgl5 := lt_of_block HK.out.c
          clear hn hm t0 t3 x0' x3' hal
          rcases (show l[k].kind = 0 ∨ l[k].kind = 1 ∨ 2 ≤ l[k].kind by omega) with hk0 | hk0 | hk0
          · have HY := Lib.hid (show tlBad l p k = true by rw [HBE.out, hk0]; rfl)
            rw [hk0] at h1 hwb
            go_wp2_with fail
            go_ret
            exact ⟨ret_bool (tl_no hlt HY.out).symm, by have h := B0.out; rw [hwb] at h; exact h⟩
          · have e1 : (l[k].kind == 1) = true := by rw [hk0]; rfl
            have hmp : m < p.length := by rw [HP3.out]; omega
            have HE := Lib.hid (show tlBad l p k = ((tkL l n k).contains (m : Int) || (!(tkL l n k).isEmpty && (decide (p[m] < 0) || !(heldTo l n p[m] k == 1)))) by rw [HBE.out, e1, hk0, par_eq hmp]; rfl)
            have HBX1 := Lib.hid (show Bx3 wb wo.heap.size 49 n 1 m by have h := BX0.out; rw [hk0] at h; exact h)
            have HTK1 := Lib.hid (show (fun t x => heldTo l t x (k + 1)) = takeF (fun t x => heldTo l t x k) n 1 m by rw [HTK.out, hk0])
            have HOB := Lib.hid (show (Value.slice (As n) (tkL l n k).length (cs n)).ownBlock ≠ some wo.heap.size from fun e => by have := ((HK.out.own n (by omega)).lt _ e).2; omega)
            have HNX1 := Lib.hid (show ∀ t : Nat, t < 4 → tkL l t (k + 1) = if t = n then tkL l n k ++ [(m : Int)] else tkL l t k from fun t ht => by
              by_cases h : t = n
              · subst h; rw [if_pos rfl, tk_yes hlt HNn.out hk0, HMm.out]
              · rw [if_neg h]; exact tk_no hlt (by rw [HNn.out]; simp; omega))
            rw [hk0] at h1 hwb
            obtain ⟨x0, x1, x2, x3, x4, x5, x6⟩ := HBX1.out.at_
            obtain ⟨y0, y1⟩ := K0.out.cell (n := n) (by omega)
            have htl0 := tk_le l n k
            have HCM := Lib.hid (show (tkL l n k).length ≤ maxLen by unfold maxLen; omega)
            have HRI := Lib.hid (OwnI.rd (show OwnI wb w.heap.size 3 (.slice (As n) (tkL l n k).length (cs n)) (tkL l n k) from OwnG.of_row (K0.out.own n (by omega))))
            have hzz5 := lt_of_block K0.out.c
            have hxg5 : wo.heap.size ≠ g5 := by omega
            clear e1 hk0
            cases ec : (tkL l n k).contains (m : Int)
            · have EC := Lib.hid ec
              clear ec
              go_wp2_with fail
              rw [← hwb]
              clear hwb h0 h1 h2
              ((first | (with_reducible refine wp_region_from (by with_reducible assumption) follows (by kernel_rfl) ?_) | (refine wp_region_aft follows (by kernel_rfl) ?_)); (repeat (go_big_quiet_step ((go_at_call 34; exact aftb_same (Contains_int_any _ _ (tkL l n k) m _ HCM.out (HRI.out.on (After.below _))) (EC.out))))); refine wpQuiet_nil ?_; intro _ hw'; obtain ⟨⟨w1, hb⟩, rfl⟩ := hw'; (try dsimp only); first | (replace hb := Below.via hb (by with_reducible assumption); (try clear hbc hbf hbz); obtain ⟨hbc, hbf, hbz⟩ := bcell hb) | (obtain ⟨hbc, hbf, hbz⟩ := bcell hb))
              rename_i w5
              have BX5 := Lib.hid (HBX1.out.be hb)
              have K5 := Lib.hid (K0.out.on hb)
              have T5 := Lib.hid (T0.out.on hb)
              have B5 := Lib.hid (Below.trans B0.out (hb.mono B0.out.size))
              clear hb hbc hbf hbz x0 x1 x2 x3 x4 x5 x6 y0 y1
              obtain ⟨x0, x1, x2, x3, x4, x5, x6⟩ := BX5.out.at_
              obtain ⟨y0, y1⟩ := K5.out.cell (n := n) (by omega)
              obtain ⟨bp, offp, rfl, hbp, u0⟩ := (hR'.on B5.out).at_ hmp
              have hpl : (m : Int) < (p.length : Int) := by omega
              have hzz5' := lt_of_block K5.out.c
              obtain ⟨Ln, hLn⟩ : ∃ Ln, Ln = (tkL l n k).length := ⟨_, rfl⟩
              rw [← hLn] at y0
              have hzt5 := T5.out.lt
              obtain ⟨pm, hpm⟩ : ∃ pm : Int, pm = p[m] := ⟨_, rfl⟩
              have hpm2 := (HP.out.2 m hmp).2
              have HEP := HE.out
              rw [← hpm] at u0 hpm2 HEP
              clear HE hpm
              have HE := Lib.hid HEP
              clear HEP
              go_upto_region 15 with fail
              go_cut [63] from 22 to 78 (fun v63 wx => v63 = .bool (!(tkL l n k).isEmpty && (decide (pm < 0) || !(heldTo l n pm k == 1))) ∧ Bx3 wx wo.heap.size 49 n 1 m ∧ TkAt wx w.heap.size g5 g (fun t : Nat => tkL l t k) As cs ∧ TabAt wx g 96 (fun t x => heldTo l t x k) ∧ Below w.heap.size w wx)
              case first =>
                cases ee : (tkL l n k).isEmpty
                · have hlN : 0 < Ln := by
                    rw [hLn]
                    cases h : tkL l n k with
                    | nil => rw [h] at ee; cases ee
                    | cons a r => simp
                  have hlen0 : (0 : Int) < (Ln : Int) := by omega
                  have HLN := Lib.hid hLn
                  clear hLn
                  by_cases hp0 : pm < 0
                  · have HQ1 := Lib.hid (show (!(tkL l n k).isEmpty && (decide (pm < 0) || !(heldTo l n pm k == 1))) = true by rw [ee]; simp [hp0])
                    clear ee
                    go_wp2_with fail
                    ((first | (with_reducible refine wp_region_from (by with_reducible assumption) follows (by kernel_rfl) ?_) | (refine wp_region_aft follows (by kernel_rfl) ?_)); (repeat (go_big_quiet_step (fail))); refine wpQuiet_nil ?_; intro _ hw'; obtain ⟨⟨w1, hb⟩, rfl⟩ := hw'; (try dsimp only); first | (replace hb := Below.via hb (by with_reducible assumption); (try clear hbc hbf hbz); obtain ⟨hbc, hbf, hbz⟩ := bcell hb) | (obtain ⟨hbc, hbf, hbz⟩ := bcell hb))
                    go_wp2
                    go_meet
                    exact ⟨congrArg Value.bool HQ1.out.symm, BX5.out.be hb, K5.out.on hb, T5.out.on hb, Below.trans B5.out (hb.mono B5.out.size)⟩
                  · obtain ⟨q, rfl⟩ : ∃ q : Nat, pm = q := ⟨pm.toNat, by omega⟩
                    have hq3 : (q : Int) < 3 := by omega
                    have t0 := (T5.out.cell (n := n) (m := q) (by omega) (by omega)).1
                    have hpb : decide ((q : Int) < 0) = false := by simp
                    clear hp0 hpm2
                    cases eh : (heldTo l n q k == 1)
                    · have HQ1 := Lib.hid (show (!(tkL l n k).isEmpty && (decide ((q : Int) < 0) || !(heldTo l n q k == 1))) = true by rw [ee, hpb, eh]; rfl)
                      have eh' : (heldTo l n q k != 1) = true := by rw [bne, eh]; rfl
                      clear ee eh
                      go_wp2_with fail
                      ((first | (with_reducible refine wp_region_from (by with_reducible assumption) follows (by kernel_rfl) ?_) | (refine wp_region_aft follows (by kernel_rfl) ?_)); (repeat (go_big_quiet_step (fail))); refine wpQuiet_nil ?_; intro _ hw'; obtain ⟨⟨w1, hb⟩, rfl⟩ := hw'; (try dsimp only); first | (replace hb := Below.via hb (by with_reducible assumption); (try clear hbc hbf hbz); obtain ⟨hbc, hbf, hbz⟩ := bcell hb) | (obtain ⟨hbc, hbf, hbz⟩ := bcell hb))
                      go_wp2
                      go_meet
                      exact ⟨congrArg Value.bool HQ1.out.symm, BX5.out.be hb, K5.out.on hb, T5.out.on hb, Below.trans B5.out (hb.mono B5.out.size)⟩
                    · have HQ1 := Lib.hid (show (!(tkL l n k).isEmpty && (decide ((q : Int) < 0) || !(heldTo l n q k == 1))) = false by rw [ee, hpb, eh]; rfl)
                      have eh' : (heldTo l n q k != 1) = false := by rw [bne, eh]; rfl
                      clear ee eh
                      go_wp2_with fail
                      ((first | (with_reducible refine wp_region_from (by with_reducible assumption) follows (by kernel_rfl) ?_) | (refine wp_region_aft follows (by kernel_rfl) ?_)); (repeat (go_big_quiet_step (fail))); refine wpQuiet_nil ?_; intro _ hw'; obtain ⟨⟨w1, hb⟩, rfl⟩ := hw'; (try dsimp only); first | (replace hb := Below.via hb (by with_reducible assumption); (try clear hbc hbf hbz); obtain ⟨hbc, hbf, hbz⟩ := bcell hb) | (obtain ⟨hbc, hbf, hbz⟩ := bcell hb))
                      go_wp2
                      go_meet
                      exact ⟨congrArg Value.bool HQ1.out.symm, BX5.out.be hb, K5.out.on hb, T5.out.on hb, Below.trans B5.out (hb.mono B5.out.size)⟩
                · have hlN : ¬ 0 < Ln := by
                    rw [hLn]
                    cases h : tkL l n k with
                    | nil => simp
                    | cons a r => rw [h] at ee; cases ee
                  have hlen0 : ¬ (0 : Int) < (Ln : Int) := by omega
                  have HLN := Lib.hid hLn
                  have HQ1 := Lib.hid (show (!(tkL l n k).isEmpty && (decide (pm < 0) || !(heldTo l n pm k == 1))) = false by rw [ee]; rfl)
                  clear hLn ee
                  go_wp2_with fail
                  ((first | (with_reducible refine wp_region_from (by with_reducible assumption) follows (by kernel_rfl) ?_) | (refine wp_region_aft follows (by kernel_rfl) ?_)); (repeat (go_big_quiet_step (fail))); refine wpQuiet_nil ?_; intro _ hw'; obtain ⟨⟨w1, hb⟩, rfl⟩ := hw'; (try dsimp only); first | (replace hb := Below.via hb (by with_reducible assumption); (try clear hbc hbf hbz); obtain ⟨hbc, hbf, hbz⟩ := bcell hb) | (obtain ⟨hbc, hbf, hbz⟩ := bcell hb))
                  go_wp2
                  go_meet
                  exact ⟨congrArg Value.bool HQ1.out.symm, BX5.out.be hb, K5.out.on hb, T5.out.on hb, Below.trans B5.out (hb.mono B5.out.size)⟩
              case rest =>
                obtain ⟨rfl, hB6, hK6, hT6, hW6⟩ := hcut
                have BX6 := Lib.hid hB6
                have K6 := Lib.hid hK6
                have T6 := Lib.hid hT6
                have B6 := Lib.hid hW6
                clear hB6 hK6 hT6 hW6 x0 x1 x2 x3 x4 x5 x6 y0 y1 u0 hLn
                cases ecn : (!(tkL l n k).isEmpty && (decide (pm < 0) || !(heldTo l n pm k == 1)))
                · have HN := Lib.hid (show tlBad l p k = false by rw [HE.out, EC.out, ecn]; rfl)
                  clear ecn
                  obtain ⟨x0, x1, x2, x3, x4, x5, x6⟩ := BX6.out.at_
                  obtain ⟨y0, y1⟩ := K6.out.cell (n := n) (by omega)
                  have hq5 := lt_of_block K6.out.c
                  have HOX := Lib.hid (show (wc.alloc (.cells #[.int .i64 m] 3)).drew.ownsRow w.heap.size 3 1 (.slice (As n) (tkL l n k).length (cs n)) (tkL l n k).length (cellsI (tkL l n k)) from AppI.alloc (K6.out.own n (by omega)) _)
                  have HNX := Lib.hid (show ∀ j u, (cellsI [(m : Int)])[j]? = some u → (wc.alloc (.cells #[.int .i64 m] 3)).drew.cell? ((⟨wc.heap.size, 0, none⟩ : Addr).add j) = some u from fun j u hj => by
                    rw [addr_add, Nat.zero_add]
                    show (wc.alloc (.cells #[.int .i64 m] 3)).cell? ⟨wc.heap.size, j, none⟩ = some u
                    rw [World.cell?_alloc_new]
                    simpa [cellsI] using hj)
                  have KX := Lib.hid (show TkAt (wc.alloc (.cells #[.int .i64 m] 3)).drew w.heap.size g5 g (fun t : Nat => tkL l t k) As cs from K6.out.on (show Below wc.heap.size wc (wc.alloc (.cells #[.int .i64 m] 3)).drew from Below.drew (Below.al (Below.refl _ _) _)))
                  have TX := Lib.hid (show TabAt (wc.alloc (.cells #[.int .i64 m] 3)).drew g 96 (fun t x => heldTo l t x k) from T6.out.on (show Below wc.heap.size wc (wc.alloc (.cells #[.int .i64 m] 3)).drew from Below.drew (Below.al (Below.refl _ _) _)))
                  have BXX := Lib.hid (show Bx3 (wc.alloc (.cells #[.int .i64 m] 3)).drew wo.heap.size 49 n 1 m from BX6.out.al _)
                  have HBX := Lib.hid (show Below w.heap.size w (wc.alloc (.cells #[.int .i64 m] 3)).drew from Below.drew (Below.al B6.out _))
                  have hbx := HBX.out.size
                  have htl := tk_le l n k
                  go_wp2_with fail
                  go_region_law (refine step_append_lies _ rfl (.tmp 69) (.tmp 72) 24 rfl w.heap.size 3 i0 _ 1 8 Try.underlying24 hi0 hz0 hz1 hz2 rfl (by decide) (.slice (As n) (tkL l n k).length (cs n)) (tkL l n k).length (cellsI (tkL l n k)) (by simp [go_sem]) HOX.out ⟨wc.heap.size, 0, none⟩ 1 1 (cellsI [(m : Int)]) (by simp [go_sem]) rfl HNX.out (cellsI_one _) (by decide) (by unfold maxLen; omega) (by omega) hbx _ rfl ?_; intro g7 c7 w7 hO7 hg7 hl7 hgz7; have bx7 : Bx3 w7 wo.heap.size 49 n 1 m := (hg7.block _ BXX.out.at_.1 (fun e => HOB.out e.symm)).trans BXX.out; obtain ⟨r0, r1, r2, r3, r4, r5, r6⟩ := bx7.at_; have hk7 : w7.heap[g5]? = _ := (hg7.block g5 (lt_of_block KX.out.c) (fun e => (KX.out.far n (by omega)).1 e.symm)).trans KX.out.c; have rc7 : w7.cell? ⟨g5, n, none⟩ = some (.slice (As n) (tkL l n k).length (cs n)) := (World.cell?_of_block (hk7.trans KX.out.c.symm)).trans (KX.out.cell (n := n) (by omega)).1; have rf7 := frozen_of_row w7 g5 n _ _ hk7; have rz7 := lt_of_block hk7; clear hk7 bx7)
                  all_goals (
                    go_wp2_with fail
                    refine (impl_take_gr g n m 1 (fun t x => heldTo l t x k) _ (by omega) (by omega) (by omega) ((Below.heap_setCell _ ⟨g5, n, none⟩ _ g (fun e => hd3 e.symm)).trans ((hg7.block g TX.out.lt (fun e => (KX.out.far n (by omega)).2 e.symm)).trans TX.out))).mono ?_
                    rintro e w9 ⟨⟨v9, rfl⟩, hT9, hg9⟩
                    have hT9' : TabAt w9 g 96 (fun t x => heldTo l t x (k + 1)) := by rw [HTK1.out]; exact hT9
                    have hK9 := (TkAt.app KX.out (ls' := fun t : Nat => tkL l t (k + 1)) (by omega) (lt_of_block KX.out.c) TX.out.lt hd1 hO7 hg7 hl7 (fun t ht => HNX1.out t ht)).gr hg9 hd3
                    have hgz := hg7.size
                    clear hT9
                    go_wp2_with fail
                    exact ⟨⟨k + 1, _, _, by omega, by go_num, hK9, hT9', fun j hj => by
                      by_cases h : j = k
                      · subst h; exact HN.out
                      · exact HL.out j (by omega), ((HBX.out.grown hg7 hbx (fun j hj => (HOX.out.lt j hj).1)).setCell (p := ⟨g5, n, none⟩) hd1 _).grown hg9 (by simp; omega) (fun j hj => by cases hj; exact hd2)⟩, by simp [intOf]; omega⟩)
                · have HY := Lib.hid (show tlBad l p k = true by rw [HE.out, EC.out, ecn]; rfl)
                  clear ecn
                  go_wp2
                  go_ret
                  exact ⟨ret_bool (tl_no hlt HY.out).symm, B6.out⟩
            · have HY := Lib.hid (show tlBad l p k = true by rw [HE.out, ec]; rfl)
              have EC := Lib.hid ec
              clear ec
              go_wp2_with fail
              rw [← hwb]
              clear hwb h0 h1 h2
              ((first | (with_reducible refine wp_region_from (by with_reducible assumption) follows (by kernel_rfl) ?_) | (refine wp_region_aft follows (by kernel_rfl) ?_)); (repeat (go_big_quiet_step ((go_at_call 34; exact aftb_same (Contains_int_any _ _ (tkL l n k) m _ HCM.out (HRI.out.on (After.below _))) (EC.out))))); refine wpQuiet_nil ?_; intro _ hw'; obtain ⟨⟨w1, hb⟩, rfl⟩ := hw'; (try dsimp only); first | (replace hb := Below.via hb (by with_reducible assumption); (try clear hbc hbf hbz); obtain ⟨hbc, hbf, hbz⟩ := bcell hb) | (obtain ⟨hbc, hbf, hbz⟩ := bcell hb))
              go_wp2
              go_ret
              exact ⟨ret_bool (tl_no hlt HY.out).symm, Below.trans B0.out (hb.mono B0.out.size)⟩
          · have hne0 : (l[k].kind == 0) = false := by rw [beq_eq_false_iff_ne]; omega
            have hne1 : (l[k].kind == 1) = false := by rw [beq_eq_false_iff_ne]; omega
            have HN := Lib.hid (show tlBad l p k = false by rw [HBE.out, hne0, hne1]; rfl)
            have HKN := Lib.hid (fun (t : Nat) => tk_no (t := (t : Int)) hlt (by rw [hne1, Bool.and_false]))
            go_wp2_with fail
            rw [← hwb]
            clear hwb h0 h1 h2
            refine (impl_take_gr g n m l[k].kind _ _ (by omega) (by omega) k0 T0.out).mono ?_
            rintro e w9 ⟨⟨v9, rfl⟩, hT9, hg9⟩
            have hT9' : TabAt w9 g 96 (fun t x => heldTo l t x (k + 1)) := by rw [HTK.out]; exact hT9
            clear hT9
            go_wp2_with fail
            exact ⟨⟨k + 1, As, cs, by omega, by go_num, (K0.out.gr hg9 hd3).same (fun t _ => HKN.out t), hT9', fun j hj => by
              by_cases h : j = k
              · subst h; exact HN.out
              · exact HL.out j (by omega), B0.out.grown hg9 B0.out.size (fun j hj => by cases hj; exact hd2)⟩, by simp [intOf]; omega⟩
        · go_wp2
          go_ret
          exact ⟨ret_bool (tt_true (fun j hj => HL.out j (by omega))).symm, HB.out⟩
end Go.Proofs.Ytejipiadapggmaa
