/- The graph of conflicts: contract of the reference's graph. -/
import Derived.Test.YtaflkbemecjcpaaGrM
import Derived.Test.YtaflkbemecjcpaaBox
import Derived.StillTailTactics
import Derived.Deep.AppendLies
namespace Go.Proofs.Ytaflkbemecjcpaa
set_option linter.unusedSimpArgs false
set_option linter.unusedVariables false
open Go.RowKit
theorem valid_num {l : List O3} (hv : ∀ o ∈ l, validB o = true) {k : Nat} (hk : k < l.length) : ∃ n : Nat, l[k].tx = n ∧ n ≤ 3 := by
  have h3 := hv _ (List.getElem_mem hk)
  simp [validB, inR] at h3
  exact ⟨l[k].tx.toNat, by omega, by omega⟩
theorem txN_le {l : List O3} (hv : ∀ o ∈ l, validB o = true) (k : Nat) : txN l k ≤ 3 := by
  unfold txN
  split
  · rename_i h
    obtain ⟨n, hn, h3⟩ := valid_num hv h
    rw [hn]; simpa using h3
  · omega
theorem grown_of_b {w w1 : World} (hb : Below w.heap.size w w1) (row : Option Nat) : w.grownBy w1 row := ⟨hb.os, hb.tape, hb.output, hb.size, fun k hk _ => hb.block k hk⟩
theorem ag_grown {w w1 : World} {g n : Nat} {v : Value} (h : w.grownBy w1 (some g)) : w.grownBy (w1.setCell ⟨g, n, none⟩ v).drew (some g) :=
  h.trans ⟨rfl, rfl, rfl, by simp, fun k _ hne => Below.heap_setCell w1 ⟨g, n, none⟩ v k (fun e => hne (by rw [e]))⟩
theorem comL_all {l : List O3} (hv : ValidP l) : ∀ o ∈ comL l, validB o = true := by
  intro o ho
  obtain ⟨k, hk, rfl⟩ := List.getElem_of_mem (List.mem_filter.1 ho).1
  exact valid_all hv hk
set_option maxRecDepth 100000 in
set_option maxHeartbeats 4000000 in
theorem spec_graph_any (A : Option Addr) (c : Nat) (l : List O3) (w : World) (hl16 : l.length ≤ 16) (hv : ∀ o ∈ l, validB o = true) (hR : RdO w w.heap.size A l) :
    Calls Try.prog 38 #[.slice A l.length c] w fun e w' => (∃ v, e = .returned v ∧ OwnI w' w.heap.size 3 v (graL l)) ∧ Below w.heap.size w w' := by
  have HM := Lib.hid (show l.length ≤ maxLen by unfold maxLen; omega)
  have HV := Lib.hid hv; clear hv
  obtain ⟨i0, hi0, hz0, hz1, hz2⟩ := info_parts info_I
  have H1 := Lib.hid (show i0.bytes * 4 ≤ 281474976710656 by rw [hz2]; omega)
  have H2 := Lib.hid (show 4 ≤ maxLen by unfold maxLen; omega)
  go_enter Try.func38, Try.ntmps38
  go_wp2_with (at_make; refine wpList_make_full _ rfl _ _ 24 rfl w.heap.size 3 i0 _ 1 Try.underlying24 hi0 hz0 hz1 .i64 .i64 _ _ 4 rfl rfl rfl rfl H1.out H2.out (Nat.le_refl _) ?_; intro W hOW hg; have hbW : Below w.heap.size w W := (Below.refl _ _).grown hg (Nat.le_refl _) (by simp); clear hg)
  have HRA := Lib.hid hR
  have hO0 : OwnI W w.heap.size 3 (.slice (some ⟨w.heap.size, 0, none⟩) 4 4) (mk4 (eTo l 0)) := OwnG.of_row (by simpa [madeCells, cellsI, mk4, msk, eTo, Value.cells, List.range_succ] using hOW)
  clear hOW hR
  go_loopw [4, 5] (fun v4 _ wr => ∃ (k : Nat), k ≤ l.length ∧ v4 = .int .i64 k ∧ OwnI wr w.heap.size 3 (.slice (some ⟨w.heap.size, 0, none⟩) 4 4) (mk4 (eTo l k)) ∧ Below w.heap.size w wr) (fun v4 _ _ => l.length - (intOf v4).toNat)
  case atStart => exact ⟨0, Nat.zero_le _, rfl, hO0, hbW⟩
  case round =>
    clear hO0 hbW
    obtain ⟨k, hk, rfl, hown, hbw⟩ := hrel
    have HO := Lib.hid hown; clear hown
    have HB := Lib.hid hbw; clear hbw
    by_cases hlt : k < l.length
    · obtain ⟨b, off, rfl, hb, h0, h1, h2⟩ := (HRA.out.on HB.out).at_ hlt
      obtain ⟨n, hn, hn3⟩ := valid_num HV.out hlt
      have HNn := Lib.hid hn
      clear hn h0 h1 h2 hb
      obtain ⟨wo, hwo⟩ : ∃ wo : World, wo = wr := ⟨_, rfl⟩
      subst hwo
      go_wp2_with fail
      go_loopw [5] (fun v5 wr => ∃ (j : Nat), k + 1 ≤ j ∧ j ≤ l.length ∧ v5 = .int .i64 j ∧ OwnI wr w.heap.size 3 (.slice (some ⟨w.heap.size, 0, none⟩) 4 4) (mk4 (eIn l k (eTo l k) j)) ∧ Below w.heap.size w wr) (fun v5 _ => l.length - (intOf v5).toNat)
      case atStart => exact ⟨k + 1, Nat.le_refl _, by omega, by go_num, by rw [eIn_start _ _ _ _ (Nat.le_refl _)]; exact HO.out, HB.out⟩
      case round =>
        obtain ⟨j, hkj, hj, rfl, hown, hbw⟩ := hrel
        have HO2 := Lib.hid hown; clear hown
        have HB2 := Lib.hid hbw; clear hbw
        by_cases hjl : j < l.length
        · have HR3 := Lib.hid (HRA.out.on HB2.out)
          obtain ⟨b3, off3, he3, hb3, q0, q1, q2⟩ := HR3.out.at_ hlt
          injection he3 with he3; injection he3 with he4 he5
          subst he4 he5
          obtain ⟨b3, off3, he3, hb4, r0, r1, r2⟩ := HR3.out.at_ hjl
          injection he3 with he3; injection he3 with he4 he5
          subst he4 he5
          obtain ⟨v, hv, hv3⟩ := valid_num HV.out hjl
          have HVV := Lib.hid hv
          clear hv
          cases hcf : conflB l[k] l[j]
          all_goals have HCF := (confl_same (HV.out _ (List.getElem_mem hlt)) (HV.out _ (List.getElem_mem hjl))).trans hcf
          · have HN := Lib.hid (eIn_no (f := eTo l k) ((cfAt_eq hlt hjl).trans hcf))
            clear hcf
            go_wp2_with fail
            ((first | (with_reducible refine wp_region_from (by with_reducible assumption) follows (by kernel_rfl) ?_) | (refine wp_region_aft follows (by kernel_rfl) ?_)); (repeat (go_big_quiet_step ((go_at_call 51; exact aftb (spec_conflict_any _ _ _ _ _ _ _) (HCF))))); refine wpQuiet_nil ?_; intro _ hw'; obtain ⟨⟨w1, hb⟩, rfl⟩ := hw'; (try dsimp only); first | (replace hb := Below.via hb (by with_reducible assumption); (try clear hbc hbf hbz); obtain ⟨hbc, hbf, hbz⟩ := bcell hb) | (obtain ⟨hbc, hbf, hbz⟩ := bcell hb))
            rename_i w7
            have hb7 := hb
            go_wp2
            exact ⟨⟨j + 1, by omega, by omega, by go_num, by rw [HN.out]; exact HO2.out.on hb7, Below.trans HB2.out (hb7.mono HB2.out.size)⟩, by simp [intOf]; omega⟩
          · have HN := Lib.hid (eIn_yes (f := eTo l k) (by omega) ((cfAt_eq hlt hjl).trans hcf))
            clear hcf
            go_wp2_with fail
            ((first | (with_reducible refine wp_region_from (by with_reducible assumption) follows (by kernel_rfl) ?_) | (refine wp_region_aft follows (by kernel_rfl) ?_)); (repeat (go_big_quiet_step ((go_at_call 51; exact aftb (spec_conflict_any _ _ _ _ _ _ _) (HCF))))); refine wpQuiet_nil ?_; intro _ hw'; obtain ⟨⟨w1, hb⟩, rfl⟩ := hw'; (try dsimp only); first | (replace hb := Below.via hb (by with_reducible assumption); (try clear hbc hbf hbz); obtain ⟨hbc, hbf, hbz⟩ := bcell hb) | (obtain ⟨hbc, hbf, hbz⟩ := bcell hb))
            rename_i w7
            have hlen : n < (mk4 (eIn l k (eTo l k) j)).length := by rw [mk4_len]; omega
            have HO7 := Lib.hid (HO2.out.on hb)
            have HB7 := Lib.hid (Below.trans HB2.out (hb.mono HB2.out.size))
            obtain ⟨_, c7, c8, c9'⟩ := OwnI.cells HO7.out hlen
            obtain ⟨b7, off7, he7, hb7, q0', q1', q2'⟩ := (HR3.out.on hb).at_ hlt
            injection he7 with he7; injection he7 with he8 he9
            subst he8 he9
            obtain ⟨b7, off7, he7, hb8, r0', r1', r2'⟩ := (HR3.out.on hb).at_ hjl
            injection he7 with he7; injection he7 with he8 he9
            subst he8 he9
            rw [HVV.out] at r0'
            rw [HNn.out] at q0'
            have hn4 : (n : Int) < 4 := by omega
            clear hb hbc hbf hbz q0 q1 q2 r0 r1 r2 HCF
            go_wp2_with fail
            refine wp_region_still_tail 21 (by kernel_rfl) (by kernel_rfl) ?_
            simp only [List.take_succ_cons, List.take_zero, List.drop_succ_cons, List.drop_zero]
            repeat still_step
            still_call ((spec_power_any v _ hv3).mono fun e w'' h => ⟨h.1, h.2.symm⟩)
            repeat still_step
            refine wpStill_nil ?_
            change wpList _ _ _ _ _ w7.drew
            go_wp2_with fail
            refine ⟨⟨j + 1, by omega, by omega, by go_num, ?_, Below.drew (Below.setCell HB7.out (p := ⟨w.heap.size, n, none⟩) (Nat.le_refl _) _)⟩, by simp [intOf]; omega⟩
            have e : mk4 (eIn l k (eTo l k) (j + 1)) = (mk4 (eIn l k (eTo l k) j)).set n (bits .or .i64 (mk4 (eIn l k (eTo l k) j))[n] (pwN v)) := by
              rw [HN.out, txN_eq hlt HNn.out, txN_eq hjl HVV.out]
              exact (mk4_set _ hlen hv3).symm
            rw [e]
            exact OwnG.kept (OwnI.set_ HO7.out (by rw [mk4_len]) n _) (fun _ _ => rfl)
        · have hj' : j = l.length := by omega
          have HJ := Lib.hid hj'; clear hj'
          go_wp2
          exact ⟨⟨k + 1, by omega, by go_num, by have h := HO2.out; rw [HJ.out] at h; exact h, HB2.out⟩, by simp [intOf]; omega⟩
    · have hk' : k = l.length := by omega
      have HK := Lib.hid hk'; clear hk'
      go_wp2
      go_ret
      exact ⟨⟨_, rfl, by have h := HO.out; rw [HK.out] at h; exact h⟩, HB.out⟩
end Go.Proofs.Ytaflkbemecjcpaa
