/- IsSerializable: the permutations' helper that calls itself. -/
import Derived.Maps.OwnIn
import Derived.Test.YtaflkbemecjcpaaSeI
import Derived.Test.YtaflkbemecjcpaaSeS
namespace Go.Proofs.Ytaflkbemecjcpaa
set_option linter.unusedSimpArgs false
set_option linter.unusedVariables false
open Go.RowKit Go.Shelf
attribute [local go_sem] Oper.semAt_some
theorem per_le (f : Nat → Nat → Bool) {L : List Nat} (hL : L.length ≤ 4) : ∀ (k : Nat) (p : List Nat), perN f L k p ≤ 4 ^ k
  | 0, p => by rw [perN]; split <;> simp
  | k + 1, p => by
    rw [perN, Nat.pow_succ]
    refine Nat.le_trans (sumU_le (M := 4 ^ k) (fun t => ?_) L) (by rw [Nat.mul_comm]; exact Nat.mul_le_mul_left _ hL)
    split
    · exact Nat.zero_le _
    · exact per_le f hL k _
theorem app_ci {w : World} {B no t c : Nat} {A : Option Addr} {p : List Nat} (hn : no = (ci p).length) (h : w.ownsRow B 3 1 (.slice A (no + 1) c) (no + 1) (cellsI (ci p) ++ [.int .i64 (t : Int)])) : AppI w B 3 (.slice A (no + 1) c) (ci p ++ [(t : Int)]) := by
  unfold AppI
  rw [List.length_append, ← hn]
  simpa [cellsI] using h
theorem Clone_cx_any (b off c n : Nat) (q : List Nat) (w : World) (hn : n = q.length) (hl : n ≤ 1048576) (hR : RdI w w.heap.size (some ⟨b, off, none⟩) (ci q)) :
    Calls Try.prog 88 #[.slice (some ⟨b, off, none⟩) n c] w fun e w' => (∃ A' c', e = .returned (.slice A' n c') ∧ n ≤ c' ∧ RdI w' w'.heap.size A' (ci q)) ∧ Below w.heap.size w w' := by
  refine (Clone_ci_any b off c n q w hn hl hR).mono ?_
  rintro e w' ⟨⟨v, rfl, hO⟩, hb⟩
  obtain ⟨A', c', rfl, hc, hr, _⟩ := hO.reads
  rw [ci_len, ← hn] at hc ⊢
  exact ⟨⟨A', c', rfl, hc.1, hr⟩, hb⟩
set_option maxRecDepth 100000 in
set_option maxHeartbeats 4000000 in
theorem impl_from_in {f : Nat → Nat → Bool} {n₁ l Bl : Nat} {A : Option Addr} {cL : Nat} {L : List Nat} {J : World → Nat → Prop} {oB : World → Option Nat} (H : SeCall f n₁ l Bl A cL L J oB) (hL4 : L.length ≤ 4) (hL3 : ∀ x ∈ L, x ≤ 3) (bo by_ bf : Nat) :
    ∀ (k : Nat) (p : List Nat) (Ao : Option Addr) (no co : Nat) (W : World) (cnt : Nat), p.length + k = L.length → cnt + 4 ^ k ≤ 1000 → (∀ t ∈ p, t ≤ 3) → PerAt W n₁ l bo Bl by_ bf (oB W) Ao no co p → J W cnt →
      CallsIn Fence.wide 0 Try.prog 110 #[.pointer (some ⟨bo, 0, none⟩), .pointer (some ⟨Bl, 0, none⟩), .pointer (some ⟨by_, 0, none⟩), .pointer (some ⟨bf, 0, none⟩)] W fun e W' =>
        e = .returned (.bool true) ∧ J W' (cnt + perN f L k p) ∧ ∃ Ao' co', PerAt W' n₁ l bo Bl by_ bf (oB W') Ao' no co' p := by
  obtain ⟨i0, hi0, hz0, hz1, hz2⟩ := info_parts info_I
  intro k
  induction k with
  | zero =>
    intro p Ao no co W cnt hk hM hp hS hJ
    obtain ⟨hBl, hxl, hRL⟩ := H.lst W cnt hJ
    have hlen := hS.len
    have hn1 := H.n1 W cnt hJ
    have y1 : W.cell? ⟨bo, 0, none⟩ = some (.slice Ao no co) := cell_of_row W bo 0 _ _ (0, 0) hS.xo
    have y2 : W.cell? ⟨Bl, 0, none⟩ = some (.slice A L.length cL) := cell_of_row W Bl 0 _ _ (0, 0) hxl
    have y3 : W.cell? ⟨by_, 0, none⟩ = some (.func (.yield l) #[] #[]) := cell_of_row W by_ 0 _ _ (0, 0) hS.xy
    have hnl : no = L.length := by omega
    have ly : by_ < W.heap.size := lt_of_block hS.xy
    obtain ⟨ga, rfl⟩ := hS.nn
    have HNP := Lib.hid hlen
    have HK := Lib.hid hk
    have HS := Lib.hid hS
    have HJ := Lib.hid hJ
    clear hlen hk hS hJ
    subst hnl
    refine callsIn_of_wp Try.func110 rfl trivial ?_ rfl
    simp only [Try.ntmps110, List.size_toArray, List.length_cons, List.length_nil, Nat.reduceAdd, Nat.reduceSub, Array.replicate_succ, Array.replicate_zero, List.push_toArray, List.append_toArray, List.nil_append, List.cons_append]
    gi_wp2
    have hfo := follows
    have hJ0 : J W.drew cnt ∧ oB W.drew = oB W := H.step W _ cnt none HJ.out (World.grownBy.refl W none |>.trans ⟨rfl, rfl, rfl, Nat.le_refl _, fun _ _ _ => rfl⟩) (fun k e => by cases e)
    gi_region_with_o (first
      | (refine ⟨trivial, rfl, ?_⟩; gi_at_call 88; go_loud (refine (callsIn_wide.2 (Clone_cx_any ga 0 co L.length p _ HNP.out (by omega) (show RdI W.drew W.drew.heap.size (some ⟨ga, 0, none⟩) (ci p) from HS.out.row.own.rd))).mono ?_; rintro e w4 ⟨⟨A4, c4, rfl, hc4, hR4⟩, hb4⟩; obtain ⟨hJ4, hO4⟩ := H.step _ w4 cnt none hJ0.1 (grown_of_b hb4 none) (fun k e => by cases e)); go_loud (have y4 : w4.cell? ⟨by_, 0, none⟩ = some (.func (.yield l) #[] #[]) := (hb4.cell (p := ⟨by_, 0, none⟩) ly).trans y3); go_loud (obtain ⟨fn, tmps, assign, body, hy, hRd⟩ := H.yield w4 cnt p A4 L.length c4 hJ4 (by rw [Nat.pow_zero] at hM; omega) HNP.out hL4 hc4 hR4 hp))
      | (refine ⟨rfl, ?_⟩; refine hRd.mono ?_; rintro e W3 ⟨rfl, hJ3, hk3⟩))
    all_goals gi_wp2
    all_goals go_ret
    all_goals
      refine ⟨rfl, hJ3, some ⟨ga, 0, none⟩, co, PerAt.kept ?_ hk3⟩
      rw [hO4, hJ0.2]
      exact HS.out.on ((Below.drew (Below.refl _ _)).trans hb4)
  | succ k ih =>
    intro p Ao no co W cnt hk hM hp hS hJ
    obtain ⟨hBl, hxl, hRL⟩ := H.lst W cnt hJ
    have hlen := hS.len
    have y1 : W.cell? ⟨bo, 0, none⟩ = some (.slice Ao no co) := cell_of_row W bo 0 _ _ (0, 0) hS.xo
    have y2 : W.cell? ⟨Bl, 0, none⟩ = some (.slice A L.length cL) := cell_of_row W Bl 0 _ _ (0, 0) hxl
    have hnl : ((no : Int) == (L.length : Int)) = false := beq_eq_false_iff_ne.2 (by omega)
    have HNP := Lib.hid hlen
    have HNC := Lib.hid (show no = (ci p).length by rw [ci_len]; exact hlen)
    have HK := Lib.hid hk
    have HS := Lib.hid hS
    have HJ := Lib.hid hJ
    have HIH := Lib.hid ih
    have HP := Lib.hid hp
    have HMM := Lib.hid hM
    clear hM
    have hno4 : no ≤ 4 := by omega
    clear hlen hk hS hJ ih hp
    refine callsIn_of_wp Try.func110 rfl trivial ?_ rfl
    simp only [Try.ntmps110, List.size_toArray, List.length_cons, List.length_nil, Nat.reduceAdd, Nat.reduceSub, Array.replicate_succ, Array.replicate_zero, List.push_toArray, List.append_toArray, List.nil_append, List.cons_append]
    gi_wp2
    clear hnl y1 y2
    have hG : ∀ {j : Nat} (hj : j < L.length), perN f L (k + 1) p = sumU (fun t => if hasN p t then 0 else perN f L k (p ++ [t])) L := fun _ => rfl
    gi_loopw [6, 18] (fun _ v18 wr => ∃ (j : Nat) (A1 : Option Addr) (c1 : Nat), j ≤ L.length ∧ v18 = .int .i64 j ∧ J wr (cnt + sumU (fun t => if hasN p t then 0 else perN f L k (p ++ [t])) (L.take j)) ∧ PerAt wr n₁ l bo Bl by_ bf (oB wr) A1 no c1 p) (fun _ v18 _ => L.length - (intOf v18).toNat)
    case atStart => exact ⟨0, Ao, co, Nat.zero_le _, rfl, by simpa [sumU] using HJ.out, HS.out⟩
    case round =>
      obtain ⟨j, A1, c1, hj, rfl, hJ1, hS1⟩ := hrel
      obtain ⟨hBl1, hxl1, hRL1⟩ := H.lst wr _ hJ1
      have hn1 := H.n1 wr _ hJ1
      have hol := H.lt wr _ hJ1
      have HJ1 := Lib.hid hJ1
      have HS1 := Lib.hid hS1
      have HOL := Lib.hid hol
      clear hJ1 hS1 hol
      by_cases hlt : j < L.length
      · obtain ⟨t, ht⟩ : ∃ t, L[j] = t := ⟨_, rfl⟩
        have ht3 : t ≤ 3 := ht ▸ hL3 _ (List.getElem_mem hlt)
        obtain ⟨lb, lo, rfl, hlb, x1⟩ := hRL1.at_ (k := j) (by rw [ci_len]; exact hlt)
        rw [ci_at] at x1
        simp only [ht] at x1
        have hnx := sumU_next (g := fun t => if hasN p t then 0 else perN f L k (p ++ [t])) hlt
        rw [ht] at hnx
        have y1 : wr.cell? ⟨bo, 0, none⟩ = some (.slice A1 no c1) := cell_of_row wr bo 0 _ _ (0, 0) HS1.out.xo
        cases hh : hasN p t
        · rw [hh] at hnx
          simp only [Bool.false_eq_true, if_false] at hnx
          have HNX := Lib.hid hnx
          have HH := Lib.hid hh
          have HJa := Lib.hid (H.step wr (wr.alloc (.cells #[.int .i64 (t : Int)] 3)) _ none HJ1.out (World.grownBy_alloc wr _ none) (fun k e => by cases e))
          have hd1 : bo ≠ bf := HS1.out.d.2.1
          have hd2 : bf ≠ bo := hd1.symm
          have HOW := Lib.hid (show (wr.alloc (.cells #[.int .i64 (t : Int)] 3)).ownsRow n₁ 3 1 (.slice A1 no c1) no (cellsI (ci p)) by
            have h := HS1.out.row
            unfold AppI at h
            rw [← HNC.out] at h
            exact row_kept h (fun k hk => Below.heap_alloc _ _ k hk))
          have HMX := Lib.hid (show cnt + sumU (fun t => if hasN p t then 0 else perN f L k (p ++ [t])) (L.take j) + 4 ^ k ≤ 1000 by
            have h1 := sumU_le (g := fun t => if hasN p t then 0 else perN f L k (p ++ [t])) (M := 4 ^ k) (fun u => by split; exact Nat.zero_le _; exact per_le f hL4 k _) (L.take j)
            rw [List.length_take, Nat.min_eq_left hj] at h1
            have h2 := HMM.out
            rw [Nat.pow_succ] at h2
            have h3 : (j + 1) * 4 ^ k ≤ 4 * 4 ^ k := Nat.mul_le_mul_right _ (by omega)
            rw [Nat.succ_mul] at h3
            rw [Nat.mul_comm (4 ^ k) 4] at h2
            omega)
          clear hnx hh ht
          gi_wp2_with (first
            | (refine ⟨trivial, rfl, ?_⟩; gi_at_call 89; refine (callsIn_wide.2 (Contains_ci_any _ _ no p t _ HNP.out (by unfold maxLen; omega) HS1.out.row.own.rd)).mono ?_; rintro e w4 ⟨rfl, rfl⟩; rw [HH.out])
            | (gi_at_builtin; refine wpListIn_append_own_at _ rfl _ _ 24 rfl n₁ 3 i0 (.int .i64 0) 1 8 Try.underlying24 hi0 hz0 hz1 hz2 rfl (by decide) (.slice A1 no c1) no (cellsI (ci p)) rfl HOW.out ⟨wr.heap.size, 0, none⟩ 1 1 [.int .i64 (t : Int)] rfl rfl (cell_one_new _ _ _) (by simp [Value.oneCell']) (by unfold maxLen; omega) (by omega) (by simp; omega) ?_; intro v9 w9 hO9 hg9 _ hv9; obtain ⟨A9, c9, rfl, _⟩ := row_form hO9; obtain ⟨S2, K9⟩ := HS1.out.push HOL.out (app_ci HNC.out hO9) hg9 (hv9.imp_right (fun e => ⟨_, e, by simp⟩)); have hJ9 := H.step _ w9 _ _ HJa.out.1 hg9 (fun k e => ⟨(HS1.out.row.lt k e).1, by rw [HJa.out.2]; exact HS1.out.ne k e⟩); have hJ2 := H.step w9 (w9.setCell ⟨bo, 0, none⟩ (.slice A9 (no + 1) c9)) _ (some bo) hJ9.1 (set_gr _ _ _ _) (fun k e => by cases e; exact ⟨HS1.out.ge.1, by rw [hJ9.2, HJa.out.2]; exact HS1.out.free.1⟩); have z1 : w9.cell? ⟨bo, 0, none⟩ = some (.slice A1 no c1) := cell_of_row w9 bo 0 _ _ (0, 0) (K9.trans HS1.out.xo); have z2 : w9.frozen? ⟨bo, 0, none⟩ = false := frozen_of_row w9 bo 0 _ _ (K9.trans HS1.out.xo); have z3 : w9.cell? ⟨bf, 0, none⟩ = some (seClo bo Bl by_ bf) := cell_of_row w9 bf 0 _ _ (0, 0) ((Below.heap_setCell w9 ⟨bo, 0, none⟩ (.slice A9 (no + 1) c9) bf (fun e => HS1.out.d.2.1 e.symm)).symm.trans S2.xf))
            | (refine ⟨trivial, rfl, ?_⟩; gi_at_call 110; refine (HIH.out (p ++ [t]) A9 (no + 1) c9 _ _ (by have := HK.out; simp; omega) HMX.out (fun u hu => by rcases List.mem_append.1 hu with h | h; exact HP.out u h; simp at h; omega) (by rw [hJ2.2, hJ9.2, HJa.out.2]; exact S2) hJ2.1).mono ?_; rintro e w5 ⟨rfl, hJ5, A5, c5, S5⟩; have v1 : w5.cell? ⟨bo, 0, none⟩ = some (.slice A5 (no + 1) c5) := cell_of_row w5 bo 0 _ _ (0, 0) S5.xo; have v2 : w5.frozen? ⟨bo, 0, none⟩ = false := frozen_of_row w5 bo 0 _ _ S5.xo; have v3 : no + 1 ≤ c5 := S5.row.cap.1))
          have hJ6 := H.step w5 (w5.setCell ⟨bo, 0, none⟩ (.slice A5 no c5)) _ (some bo) hJ5 (set_gr _ _ _ _) (fun k e => by cases e; exact ⟨S5.ge.1, S5.free.1⟩)
          exact ⟨⟨j + 1, A5, c5, by omega, by go_num, by rw [HNX.out, ← Nat.add_assoc]; exact hJ6.1, by rw [hJ6.2]; exact S5.pop⟩, by simp [intOf]; omega⟩
        · rw [hh] at hnx
          simp only [if_true, Nat.add_zero] at hnx
          have HNX := Lib.hid hnx
          have HH := Lib.hid hh
          clear hnx hh ht
          gi_wp2_with (refine ⟨trivial, rfl, ?_⟩; gi_at_call 89; refine (callsIn_wide.2 (Contains_ci_any _ _ no p t _ HNP.out (by unfold maxLen; omega) HS1.out.row.own.rd)).mono ?_; rintro e w4 ⟨rfl, rfl⟩; rw [HH.out])
          exact ⟨⟨j + 1, A1, c1, by omega, by go_num, by rw [HNX.out]; exact HJ1.out, HS1.out⟩, by simp [intOf]; omega⟩
      · have hjl : j = L.length := by omega
        subst hjl
        gi_wp2
        go_ret
        refine ⟨rfl, ?_, A1, c1, HS1.out⟩
        have h := HJ1.out
        rw [List.take_length] at h
        exact h
end Go.Proofs.Ytaflkbemecjcpaa
