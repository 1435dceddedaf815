/- Contracts of the laws' own small functions: sizes, copies, comparisons, marks. -/
import Derived.Test.YtgoedkdpanoggaaOps
namespace Go.Proofs.Ytgoedkdpanoggaa
set_option linter.unusedSimpArgs false
set_option linter.unusedVariables false
open Go.RowKit

set_option maxHeartbeats 400000 in
theorem laws_szOpS_any (A : Option Addr) (c : Nat) (l : List O3) (n : Int) (w : World) (hl : l.length ≤ maxLen) (h0 : 0 ≤ n) (h1 : n ≤ 1048576) :
    Calls Try.prog 15 #[.slice A l.length c, .int .i64 n] w fun e w' => e = .returned (.int .i64 (if n < l.length then -1 else n - l.length)) ∧ w = w' := by
  unfold maxLen at hl
  by_cases h : n < l.length
  · rw [if_pos h]
    go_enter Try.func15, Try.ntmps15
    go_wp2
    go_ret
    exact ⟨rfl, rfl⟩
  · rw [if_neg h]
    go_enter Try.func15, Try.ntmps15
    go_wp2
    go_ret
    exact ⟨rfl, rfl⟩
set_option maxHeartbeats 400000 in
theorem laws_toOp_any (a b c : Int) (w : World) :
    Calls Try.prog 51 #[.agg #[.int .i64 a, .int .i64 b, .int .i64 c]] w fun e w' => e = .returned (.agg #[.int .i64 a, .int .i64 b, .int .i64 c]) ∧ Below w.heap.size w w' := by
  go_enter Try.func51, Try.ntmps51
  go_wp2
  go_returns
  exact ⟨rfl, by (repeat' (first | (with_reducible exact Below.refl _ _) | (with_reducible assumption) | (with_reducible refine Below.al ?_ _) | (with_reducible refine Below.drew ?_) | (with_reducible refine Below.drN ?_ _) | (with_reducible refine Below.via (by with_reducible assumption) ?_) | (with_reducible refine Below.setc ?_ ?_ _) | (with_reducible exact Nat.le_refl _) | (simp; done) | (simp; omega)))⟩
theorem info_Op : (Try.prog.info? 44).map (fun i => (i.zero, i.size, i.bytes)) = some (some (.agg #[.int .i64 0, .int .i64 0, .int .i64 0]), 3, 24) := by kernel_rfl
set_option maxHeartbeats 400000 in
theorem laws_toOpS_any (A : Option Addr) (c : Nat) (l : List O3) (w : World) (hl : l.length ≤ 1048576) (hR : RdO w w.heap.size A l) :
    Calls Try.prog 17 #[.slice A l.length c] w fun e w' => (∃ g, e = .returned (.slice (some ⟨g, 0, none⟩) l.length l.length) ∧ OwnO w' w.heap.size 44 (.slice (some ⟨g, 0, none⟩) l.length l.length) l) ∧ Below w.heap.size w w' := by
  obtain ⟨i0, hi0, hz0, hz1, hz2⟩ := info_parts info_Op
  have hb1 : i0.bytes * l.length ≤ 281474976710656 := by rw [hz2]; omega
  have hb2 : l.length ≤ maxLen := by unfold maxLen; omega
  have H1 := Lib.hid hb1; clear hb1
  have H2 := Lib.hid hb2; clear hb2
  go_enter Try.func17, Try.ntmps17
  go_wp2_with (at_make; refine wpList_make_full _ rfl _ _ 25 rfl w.heap.size 44 i0 _ 3 Try.underlying25 hi0 hz0 hz1 .i64 .i64 _ _ l.length rfl rfl rfl rfl H1.out H2.out (Nat.le_refl _) ?_; intro W hO hg)
  rw [made_zeros3] at hO
  have hB : Below w.heap.size w W := (Below.refl _ _).grown hg (Nat.le_refl _) (by simp)
  replace hO : OwnO W w.heap.size 44 (.slice (some ⟨w.heap.size, 0, none⟩) l.length l.length) (List.replicate l.length ⟨0, 0, 0⟩) := by
    unfold OwnO; rw [List.length_replicate]; exact hO
  clear hg
  go_loopw [4] (fun i wr => ∃ k : Nat, k ≤ l.length ∧ i = .int .i64 k ∧ OwnO wr w.heap.size 44 (.slice (some ⟨w.heap.size, 0, none⟩) l.length l.length) (l.take k ++ List.replicate (l.length - k) ⟨0, 0, 0⟩) ∧ Below w.heap.size w wr) (fun i _ => l.length - (intOf i).toNat)
  case atStart => exact ⟨0, Nat.zero_le _, rfl, by simpa using hO, hB⟩
  case round =>
    obtain ⟨k, hk, rfl, hown, hbw⟩ := hrel
    have HO := Lib.hid hown; clear hown hO
    have HB := Lib.hid hbw; clear hbw
    by_cases hlt : k < l.length
    · obtain ⟨b, off, rfl, hb, h0, h1, h2⟩ := (hR.on HB.out).at_ hlt
      have hlen : k < (l.take k ++ List.replicate (l.length - k) (⟨0, 0, 0⟩ : O3)).length := by rw [take_zeros_len hk]; exact hlt
      go_wp2_with (go_at_call 51; refine (laws_toOp_any _ _ _ _).mono ?_; rintro e w1 ⟨rfl, hb1⟩; obtain ⟨_, s0, s1, s2, s3, sf⟩ := OwnO.cells (HO.out.below hb1 (Nat.le_refl _)) hlen)
      refine ⟨⟨k + 1, by omega, by go_num, ?_, by have hbw := HB.out; (repeat' (first | (with_reducible exact Below.refl _ _) | (with_reducible assumption) | (with_reducible refine Below.al ?_ _) | (with_reducible refine Below.drew ?_) | (with_reducible refine Below.drN ?_ _) | (with_reducible refine Below.via (by with_reducible assumption) ?_) | (with_reducible refine Below.setc ?_ ?_ _) | (with_reducible exact Nat.le_refl _) | (simp; done) | (simp; omega)))⟩, by simp [intOf]; omega⟩
      have h := OwnO.set3 (HO.out.below hb1 (Nat.le_refl _)) (take_zeros_len hk).symm hlen l[k].tx l[k].kind l[k].item
      rw [← take_set_next hlt]
      exact h
    · have hk' : k = l.length := by omega
      have HK := Lib.hid hk'; clear hk'
      go_wp2
      go_ret
      exact ⟨⟨_, rfl, by have h := HO.out; rw [HK.out] at h; simpa using h⟩, HB.out⟩
set_option maxHeartbeats 400000 in
theorem laws_eqOp_any (a b c : Int) (w : World) :
    Calls Try.prog 54 #[.agg #[.int .i64 a, .int .i64 b, .int .i64 c], .agg #[.int .i64 a, .int .i64 b, .int .i64 c]] w fun e w' => e = .returned (.bool true) ∧ Below w.heap.size w w' := by
  go_enter Try.func54, Try.ntmps54
  go_wp2
  go_ret
  exact ⟨rfl, by (repeat' (first | (with_reducible exact Below.refl _ _) | (with_reducible assumption) | (with_reducible refine Below.al ?_ _) | (with_reducible refine Below.drew ?_) | (with_reducible refine Below.drN ?_ _) | (with_reducible refine Below.via (by with_reducible assumption) ?_) | (with_reducible refine Below.setc ?_ ?_ _) | (with_reducible exact Nat.le_refl _) | (simp; done) | (simp; omega)))⟩
set_option maxHeartbeats 400000 in
theorem laws_eqOpS_any (A A' : Option Addr) (c c' : Nat) (l : List O3) (w : World) (hl : l.length ≤ maxLen) (hR : RdO w w.heap.size A l) (hR' : RdO w w.heap.size A' l) :
    Calls Try.prog 19 #[.slice A l.length c, .slice A' l.length c'] w fun e w' => e = .returned (.bool true) ∧ Below w.heap.size w w' := by
  unfold maxLen at hl
  go_enter Try.func19, Try.ntmps19
  go_wp2_with fail
  go_loopw [5] (fun i wr => ∃ k : Nat, k ≤ l.length ∧ i = .int .i64 k ∧ Below w.heap.size w wr) (fun i _ => l.length - (intOf i).toNat)
  case atStart => exact ⟨0, Nat.zero_le _, rfl, Below.refl _ _⟩
  case round =>
    obtain ⟨k, hk, rfl, hbw⟩ := hrel
    have HB := Lib.hid hbw; clear hbw
    by_cases hlt : k < l.length
    · obtain ⟨b, off, rfl, hb, h0, h1, h2⟩ := (hR.on HB.out).at_ hlt
      obtain ⟨b', off', rfl, hb', h0', h1', h2'⟩ := (hR'.on HB.out).at_ hlt
      go_wp2_with fail
      ((first | (with_reducible refine wp_region_from (by with_reducible assumption) follows (by kernel_rfl) ?_) | (refine wp_region_aft follows (by kernel_rfl) ?_)); (repeat (go_big_quiet_step (first | (go_at_call 54; exact aft (laws_eqOp_any _ _ _ _))))); refine wpQuiet_nil ?_; intro _ hw'; obtain ⟨⟨w1, hb⟩, rfl⟩ := hw'; (try dsimp only); first | (replace hb := Below.via hb (by with_reducible assumption); (try clear hbc hbf hbz); obtain ⟨hbc, hbf, hbz⟩ := bcell hb) | (obtain ⟨hbc, hbf, hbz⟩ := bcell hb))
      go_wp2
      exact ⟨⟨k + 1, by omega, by go_num, by have hbw := HB.out; (repeat' (first | (with_reducible exact Below.refl _ _) | (with_reducible assumption) | (with_reducible refine Below.al ?_ _) | (with_reducible refine Below.drew ?_) | (with_reducible refine Below.drN ?_ _) | (with_reducible refine Below.via (by with_reducible assumption) ?_) | (with_reducible refine Below.setc ?_ ?_ _) | (with_reducible exact Nat.le_refl _) | (simp; done) | (simp; omega)))⟩, by simp [intOf]; omega⟩
    · go_wp2
      go_ret
      exact ⟨rfl, HB.out⟩
end Go.Proofs.Ytgoedkdpanoggaa
