/- Contracts of the laws' own small functions: sizes, copies, comparisons, marks. -/
import Derived.Test.YtaflkbemecjcpaaOps
namespace Go.Proofs.Ytaflkbemecjcpaa
set_option linter.unusedSimpArgs false
set_option linter.unusedVariables false
open Go.RowKit

set_option maxHeartbeats 400000 in
theorem laws_szOpS_any (A : Option Addr) (c : Nat) (l : List O3) (n : Int) (w : World) (hl : l.length ≤ maxLen) (h0 : 0 ≤ n) (h1 : n ≤ 1048576) :
    Calls Try.prog 10 #[.slice A l.length c, .int .i64 n] w fun e w' => e = .returned (.int .i64 (if n < l.length then -1 else n - l.length)) ∧ w = w' := by
  unfold maxLen at hl
  by_cases h : n < l.length
  · rw [if_pos h]
    go_enter Try.func10, Try.ntmps10
    go_wp2
    go_ret
    exact ⟨rfl, rfl⟩
  · rw [if_neg h]
    go_enter Try.func10, Try.ntmps10
    go_wp2
    go_ret
    exact ⟨rfl, rfl⟩
set_option maxHeartbeats 400000 in
theorem laws_toOp_any (a b c : Int) (w : World) :
    Calls Try.prog 40 #[.agg #[.int .i64 a, .int .i64 b, .int .i64 c]] w fun e w' => e = .returned (.agg #[.int .i64 a, .int .i64 b, .int .i64 c]) ∧ Below w.heap.size w w' := by
  go_enter Try.func40, Try.ntmps40
  go_wp2
  go_returns
  exact ⟨rfl, by (repeat' (first | (with_reducible exact Below.refl _ _) | (with_reducible assumption) | (with_reducible refine Below.al ?_ _) | (with_reducible refine Below.drew ?_) | (with_reducible refine Below.drN ?_ _) | (with_reducible refine Below.via (by with_reducible assumption) ?_) | (with_reducible refine Below.setc ?_ ?_ _) | (with_reducible exact Nat.le_refl _) | (simp; done) | (simp; omega)))⟩
theorem info_Op : (Try.prog.info? 40).map (fun i => (i.zero, i.size, i.bytes)) = some (some (.agg #[.int .i64 0, .int .i64 0, .int .i64 0]), 3, 24) := by kernel_rfl
set_option maxHeartbeats 400000 in
theorem laws_toOpS_any (A : Option Addr) (c : Nat) (l : List O3) (w : World) (hl : l.length ≤ 1048576) (hR : RdO w w.heap.size A l) :
    Calls Try.prog 12 #[.slice A l.length c] w fun e w' => (∃ g, e = .returned (.slice (some ⟨g, 0, none⟩) l.length l.length) ∧ OwnO w' w.heap.size 40 (.slice (some ⟨g, 0, none⟩) l.length l.length) l) ∧ Below w.heap.size w w' := by
  obtain ⟨i0, hi0, hz0, hz1, hz2⟩ := info_parts info_Op
  have hb1 : i0.bytes * l.length ≤ 281474976710656 := by rw [hz2]; omega
  have hb2 : l.length ≤ maxLen := by unfold maxLen; omega
  have H1 := Lib.hid hb1; clear hb1
  have H2 := Lib.hid hb2; clear hb2
  go_enter Try.func12, Try.ntmps12
  go_wp2_with (at_make; refine wpList_make_full _ rfl _ _ 26 rfl w.heap.size 40 i0 _ 3 Try.underlying26 hi0 hz0 hz1 .i64 .i64 _ _ l.length rfl rfl rfl rfl H1.out H2.out (Nat.le_refl _) ?_; intro W hO hg)
  rw [made_zeros3] at hO
  have hB : Below w.heap.size w W := (Below.refl _ _).grown hg (Nat.le_refl _) (by simp)
  replace hO : OwnO W w.heap.size 40 (.slice (some ⟨w.heap.size, 0, none⟩) l.length l.length) (List.replicate l.length ⟨0, 0, 0⟩) := by
    unfold OwnO; rw [List.length_replicate]; exact OwnG.of_row hO
  clear hg
  go_loopw [4] (fun i wr => ∃ k : Nat, k ≤ l.length ∧ i = .int .i64 k ∧ OwnO wr w.heap.size 40 (.slice (some ⟨w.heap.size, 0, none⟩) l.length l.length) (l.take k ++ List.replicate (l.length - k) ⟨0, 0, 0⟩) ∧ Below w.heap.size w wr) (fun i _ => l.length - (intOf i).toNat)
  case atStart => exact ⟨0, Nat.zero_le _, rfl, by simpa using hO, hB⟩
  case round =>
    obtain ⟨k, hk, rfl, hown, hbw⟩ := hrel
    have HO := Lib.hid hown; clear hown hO
    have HB := Lib.hid hbw; clear hbw
    by_cases hlt : k < l.length
    · obtain ⟨b, off, rfl, hb, h0, h1, h2⟩ := (hR.on HB.out).at_ hlt
      have hlen : k < (l.take k ++ List.replicate (l.length - k) (⟨0, 0, 0⟩ : O3)).length := by rw [take_zeros_len hk]; exact hlt
      go_wp2_with (go_at_call 40; refine (laws_toOp_any _ _ _ _).mono ?_; rintro e w1 ⟨rfl, hb1⟩; obtain ⟨_, s0, s1, s2, s3, sf⟩ := OwnO.cells (HO.out.below hb1 (Nat.le_refl _)) hlen)
      refine ⟨⟨k + 1, by omega, by go_num, ?_, by have hbw := HB.out; (repeat' (first | (with_reducible exact Below.refl _ _) | (with_reducible assumption) | (with_reducible refine Below.al ?_ _) | (with_reducible refine Below.drew ?_) | (with_reducible refine Below.drN ?_ _) | (with_reducible refine Below.via (by with_reducible assumption) ?_) | (with_reducible refine Below.setc ?_ ?_ _) | (with_reducible exact Nat.le_refl _) | (simp; done) | (simp; omega)))⟩, by simp [intOf]; omega⟩
      have h := OwnO.set3 (HO.out.below hb1 (Nat.le_refl _)) (take_zeros_len hk).symm hlen l[k].tx l[k].kind l[k].item
      rw [← take_set_next hlt]
      exact h
    · have hk' : k = l.length := by omega
      have HK := Lib.hid hk'; clear hk'
      go_wp2
      go_ret
      exact ⟨⟨_, rfl, by have h := HO.out; rw [HK.out] at h; simpa using h⟩, HB.out⟩
set_option maxHeartbeats 400000 in
theorem laws_eqOp_any (a b c : Int) (w : World) :
    Calls Try.prog 42 #[.agg #[.int .i64 a, .int .i64 b, .int .i64 c], .agg #[.int .i64 a, .int .i64 b, .int .i64 c]] w fun e w' => e = .returned (.bool true) ∧ Below w.heap.size w w' := by
  go_enter Try.func42, Try.ntmps42
  go_wp2
  go_ret
  exact ⟨rfl, by (repeat' (first | (with_reducible exact Below.refl _ _) | (with_reducible assumption) | (with_reducible refine Below.al ?_ _) | (with_reducible refine Below.drew ?_) | (with_reducible refine Below.drN ?_ _) | (with_reducible refine Below.via (by with_reducible assumption) ?_) | (with_reducible refine Below.setc ?_ ?_ _) | (with_reducible exact Nat.le_refl _) | (simp; done) | (simp; omega)))⟩
set_option maxHeartbeats 400000 in
theorem laws_eqOpS_any (A A' : Option Addr) (c c' : Nat) (l : List O3) (w : World) (hl : l.length ≤ maxLen) (hR : RdO w w.heap.size A l) (hR' : RdO w w.heap.size A' l) :
    Calls Try.prog 15 #[.slice A l.length c, .slice A' l.length c'] w fun e w' => e = .returned (.bool true) ∧ Below w.heap.size w w' := by
  unfold maxLen at hl
  go_enter Try.func15, Try.ntmps15
  go_wp2_with fail
  go_loopw [5] (fun i wr => ∃ k : Nat, k ≤ l.length ∧ i = .int .i64 k ∧ Below w.heap.size w wr) (fun i _ => l.length - (intOf i).toNat)
  case atStart => exact ⟨0, Nat.zero_le _, rfl, Below.refl _ _⟩
  case round =>
    obtain ⟨k, hk, rfl, hbw⟩ := hrel
    have HB := Lib.hid hbw; clear hbw
    by_cases hlt : k < l.length
    · obtain ⟨b, off, rfl, hb, h0, h1, h2⟩ := (hR.on HB.out).at_ hlt
      obtain ⟨b', off', rfl, hb', h0', h1', h2'⟩ := (hR'.on HB.out).at_ hlt
      go_wp2_with fail
      ((first | (with_reducible refine wp_region_from (by with_reducible assumption) follows (by kernel_rfl) ?_) | (refine wp_region_aft follows (by kernel_rfl) ?_)); (repeat (go_big_quiet_step (first | (go_at_call 42; exact aft (laws_eqOp_any _ _ _ _))))); refine wpQuiet_nil ?_; intro _ hw'; obtain ⟨⟨w1, hb⟩, rfl⟩ := hw'; (try dsimp only); first | (replace hb := Below.via hb (by with_reducible assumption); (try clear hbc hbf hbz); obtain ⟨hbc, hbf, hbz⟩ := bcell hb) | (obtain ⟨hbc, hbf, hbz⟩ := bcell hb))
      go_wp2
      exact ⟨⟨k + 1, by omega, by go_num, by have hbw := HB.out; (repeat' (first | (with_reducible exact Below.refl _ _) | (with_reducible assumption) | (with_reducible refine Below.al ?_ _) | (with_reducible refine Below.drew ?_) | (with_reducible refine Below.drN ?_ _) | (with_reducible refine Below.via (by with_reducible assumption) ?_) | (with_reducible refine Below.setc ?_ ?_ _) | (with_reducible exact Nat.le_refl _) | (simp; done) | (simp; omega)))⟩, by simp [intOf]; omega⟩
    · go_wp2
      go_ret
      exact ⟨rfl, HB.out⟩

/-! ### Marks -/
def markL (k : Int) (n : Nat) : List O3 := (List.range n).map fun i : Nat => ⟨k + 3 * i, k + 3 * i + 1, k + 3 * i + 2⟩
def markN (k : Int) (n : Nat) : List Int := (List.range n).map fun i : Nat => k + i
theorem markL_len (k : Int) (n : Nat) : (markL k n).length = n := by simp [markL]
theorem markN_len (k : Int) (n : Nat) : (markN k n).length = n := by simp [markN]
theorem markL_at (k : Int) (n i : Nat) (h : i < (markL k n).length) : (markL k n)[i] = ⟨k + 3 * i, k + 3 * i + 1, k + 3 * i + 2⟩ := by simp [markL]
theorem markN_at (k : Int) (n i : Nat) (h : i < (markN k n).length) : (markN k n)[i] = k + i := by simp [markN]
theorem mark_next {α : Type} (f : Nat → α) {l : List α} {i : Nat} (hi : i < l.length) : (((List.range i).map f) ++ l.drop i).set i (f i) = ((List.range (i + 1)).map f) ++ l.drop (i + 1) := by
  have hm : ((List.range i).map f).length = i := by simp
  rw [List.set_append_right _ _ (by omega), hm, Nat.sub_self, List.drop_eq_getElem_cons hi, List.set_cons_zero, List.range_succ, List.map_append, List.append_assoc]
  rfl
theorem mark_len {α : Type} (f : Nat → α) {l : List α} {i : Nat} (hi : i ≤ l.length) : (((List.range i).map f) ++ l.drop i).length = l.length := by simp; omega
theorem grown_set {w wr : World} {g : Nat} (h : w.grownBy wr (some g)) (j : Nat) (u : Value) : w.grownBy (wr.setCell ⟨g, j, none⟩ u) (some g) :=
  ⟨h.os, h.tape, h.output, by simpa using h.size, fun k hk hne => (Below.heap_setCell wr ⟨g, j, none⟩ u k (fun e => hne (by rw [e]))).trans (h.block k hk hne)⟩
theorem slice_eq {A A' : Option Addr} {n n' c c' : Nat} (h : Value.slice A n c = .slice A' n' c') : A = A' ∧ n = n' ∧ c = c' := by
  injection h with h1 h2 h3; exact ⟨h1, h2, h3⟩
set_option maxHeartbeats 400000 in
theorem laws_markOpS_any (A : Option Addr) (c : Nat) (l : List O3) (base : Nat) (k0 : Int) (w : World) (hl : l.length ≤ 1048576) (hk0 : 0 ≤ k0 ∧ k0 ≤ 4294967296) (hO : OwnO w base 40 (.slice A l.length c) l) :
    Calls Try.prog 16 #[.slice A l.length c, .int .i64 k0] w fun e w' => e = .returned (.int .i64 (k0 + 3 * l.length)) ∧ OwnO w' base 40 (.slice A l.length c) (markL k0 l.length) ∧ w.grownBy w' (Value.slice A l.length c).ownBlock := by
  go_enter Try.func16, Try.ntmps16
  go_wp2_with fail
  go_loopw [1, 5] (fun q i wr => ∃ k : Nat, k ≤ l.length ∧ i = .int .i64 k ∧ q = .int .i64 (k0 + 3 * k) ∧ OwnO wr base 40 (.slice A l.length c) (markL k0 k ++ l.drop k) ∧ w.grownBy wr (Value.slice A l.length c).ownBlock) (fun _ i _ => l.length - (intOf i).toNat)
  case atStart => exact ⟨0, Nat.zero_le _, rfl, by simp, by simpa [markL] using hO, World.grownBy.refl _ _⟩
  case round =>
    obtain ⟨k, hk, rfl, rfl, hown, hg⟩ := hrel
    by_cases hlt : k < l.length
    · have hlen : k < (markL k0 k ++ l.drop k).length := by unfold markL; rw [mark_len _ hk]; exact hlt
      obtain ⟨g, c', he, hb, hgl, h0, h1, h2, hf⟩ := hown.at_ hlen
      obtain rfl := (slice_eq he).1
      generalize (markL k0 k ++ l.drop k)[k] = x at h0 h1 h2
      have HN := Lib.hid hlen; clear hlen
      have HO := Lib.hid hown; clear hown hO
      have HG := Lib.hid hg; clear hg he
      have f0 := hf (k * 3); have f1 := hf (k * 3 + 1); have f2 := hf (k * 3 + 2); clear hf
      go_wp2
      refine ⟨⟨k + 1, by omega, by go_num, by go_num, ?_, ?_⟩, by simp [intOf]; omega⟩
      · have h := OwnO.set3 HO.out (by unfold markL; rw [mark_len _ hk]) HN.out (k0 + 3 * k) (k0 + 3 * k + 1) (k0 + 3 * k + 2)
        unfold markL at h ⊢
        rw [mark_next (fun i : Nat => (⟨k0 + 3 * i, k0 + 3 * i + 1, k0 + 3 * i + 2⟩ : O3)) hlt] at h
        simpa [Int.add_assoc] using h
      · exact grown_set (grown_set (grown_set HG.out _ _) _ _) _ _
    · have hk' : k = l.length := by omega
      have HK := Lib.hid hk'; clear hk'
      have HO := Lib.hid hown; clear hown hO
      have HG := Lib.hid hg; clear hg
      go_wp2
      go_ret
      refine ⟨ret_int (by rw [HK.out]), ?_, HG.out⟩
      have h := HO.out
      rw [HK.out] at h
      simpa using h

set_option maxHeartbeats 400000 in
theorem laws_eqIntS_any (A A' : Option Addr) (c c' : Nat) (l : List Int) (w : World) (hl : l.length ≤ maxLen) (hR : RdI w w.heap.size A l) (hR' : RdI w w.heap.size A' l) :
    Calls Try.prog 14 #[.slice A l.length c, .slice A' l.length c'] w fun e w' => e = .returned (.bool true) ∧ Below w.heap.size w w' := by
  unfold maxLen at hl
  go_enter Try.func14, Try.ntmps14
  go_wp2_with fail
  go_loopw [5] (fun i wr => ∃ k : Nat, k ≤ l.length ∧ i = .int .i64 k ∧ Below w.heap.size w wr) (fun i _ => l.length - (intOf i).toNat)
  case atStart => exact ⟨0, Nat.zero_le _, rfl, Below.refl _ _⟩
  case round =>
    obtain ⟨k, hk, rfl, hbw⟩ := hrel
    have HB := Lib.hid hbw; clear hbw
    by_cases hlt : k < l.length
    · obtain ⟨b, off, rfl, hb, h0⟩ := (hR.on HB.out).at_ hlt
      obtain ⟨b', off', rfl, hb', h0'⟩ := (hR'.on HB.out).at_ hlt
      go_wp2_with fail
      ((first | (with_reducible refine wp_region_from (by with_reducible assumption) follows (by kernel_rfl) ?_) | (refine wp_region_aft follows (by kernel_rfl) ?_)); (repeat (go_big_quiet_step (fail))); refine wpQuiet_nil ?_; intro _ hw'; obtain ⟨⟨w1, hb⟩, rfl⟩ := hw'; (try dsimp only); first | (replace hb := Below.via hb (by with_reducible assumption); (try clear hbc hbf hbz); obtain ⟨hbc, hbf, hbz⟩ := bcell hb) | (obtain ⟨hbc, hbf, hbz⟩ := bcell hb))
      go_wp2
      exact ⟨⟨k + 1, by omega, by go_num, by have hbw := HB.out; (repeat' (first | (with_reducible exact Below.refl _ _) | (with_reducible assumption) | (with_reducible refine Below.al ?_ _) | (with_reducible refine Below.drew ?_) | (with_reducible refine Below.drN ?_ _) | (with_reducible refine Below.via (by with_reducible assumption) ?_) | (with_reducible refine Below.setc ?_ ?_ _) | (with_reducible exact Nat.le_refl _) | (simp; done) | (simp; omega)))⟩, by simp [intOf]; omega⟩
    · go_wp2
      go_ret
      exact ⟨rfl, HB.out⟩
set_option maxHeartbeats 400000 in
theorem laws_markIntS_any (A : Option Addr) (c : Nat) (l : List Int) (base : Nat) (k0 : Int) (w : World) (hl : l.length ≤ 1048576) (hk0 : 0 ≤ k0 ∧ k0 ≤ 4294967296) (hO : OwnI w base 3 (.slice A l.length c) l) :
    Calls Try.prog 17 #[.slice A l.length c, .int .i64 k0] w fun e w' => e = .returned (.int .i64 (k0 + l.length)) ∧ OwnI w' base 3 (.slice A l.length c) (markN k0 l.length) ∧ w.grownBy w' (Value.slice A l.length c).ownBlock := by
  go_enter Try.func17, Try.ntmps17
  go_wp2_with fail
  go_loopw [1, 5] (fun q i wr => ∃ k : Nat, k ≤ l.length ∧ i = .int .i64 k ∧ q = .int .i64 (k0 + k) ∧ OwnI wr base 3 (.slice A l.length c) (markN k0 k ++ l.drop k) ∧ w.grownBy wr (Value.slice A l.length c).ownBlock) (fun _ i _ => l.length - (intOf i).toNat)
  case atStart => exact ⟨0, Nat.zero_le _, rfl, by simp, by simpa [markN] using hO, World.grownBy.refl _ _⟩
  case round =>
    obtain ⟨k, hk, rfl, rfl, hown, hg⟩ := hrel
    by_cases hlt : k < l.length
    · have hlen : k < (markN k0 k ++ l.drop k).length := by unfold markN; rw [mark_len _ hk]; exact hlt
      obtain ⟨g, c', he, hb, hgl, h0, hf⟩ := hown.at_ hlen
      obtain rfl := (slice_eq he).1
      generalize (markN k0 k ++ l.drop k)[k] = x at h0
      have HN := Lib.hid hlen; clear hlen
      have HO := Lib.hid hown; clear hown hO
      have HG := Lib.hid hg; clear hg he
      go_wp2
      refine ⟨⟨k + 1, by omega, by go_num, by go_num, ?_, ?_⟩, by simp [intOf]; omega⟩
      · have h := OwnI.set_ HO.out (by unfold markN; rw [mark_len _ hk]) k (k0 + k)
        unfold markN at h ⊢
        rw [mark_next (fun i : Nat => k0 + (i : Int)) hlt] at h
        exact h
      · exact grown_set HG.out _ _
    · have hk' : k = l.length := by omega
      have HK := Lib.hid hk'; clear hk'
      have HO := Lib.hid hown; clear hown hO
      have HG := Lib.hid hg; clear hg
      go_wp2
      go_ret
      refine ⟨ret_int (by rw [HK.out]), ?_, HG.out⟩
      have h := HO.out
      rw [HK.out] at h
      simpa using h
set_option maxHeartbeats 400000 in
theorem laws_heldIntS_any (A : Option Addr) (c : Nat) (n : Nat) (k0 : Int) (w : World) (hl : n ≤ 1048576) (hk0 : 0 ≤ k0 ∧ k0 ≤ 4294967296) (hR : RdI w w.heap.size A (markN k0 n)) :
    Calls Try.prog 18 #[.slice A n c, .int .i64 k0] w fun e w' => e = .returned (.int .i64 (k0 + n)) ∧ w = w' := by
  go_enter Try.func18, Try.ntmps18
  go_wp2_with fail
  go_loop [1, 5] (fun q i => ∃ k : Nat, k ≤ n ∧ i = .int .i64 k ∧ q = .int .i64 (k0 + k)) (fun _ i => n - (intOf i).toNat)
  case atStart => exact ⟨0, Nat.zero_le _, rfl, by simp⟩
  case round =>
    obtain ⟨k, hk, rfl, rfl⟩ := hrel
    by_cases hlt : k < n
    · obtain ⟨b, off, rfl, hb, h0⟩ := hR.at_ (k := k) (by rw [markN_len]; exact hlt)
      rw [markN_at] at h0
      go_wp2
      exact ⟨⟨k + 1, by omega, by go_num, by go_num⟩, by simp [intOf]; omega⟩
    · have hk' : k = n := by omega
      have HK := Lib.hid hk'; clear hk'
      go_wp2
      go_ret
      exact ⟨ret_int (by rw [HK.out]), rfl⟩
end Go.Proofs.Ytaflkbemecjcpaa
