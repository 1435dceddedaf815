/- slices.Reverse and slices.Clip at ints. -/
import Derived.Shelf.Slices.Reverse
import Derived.Sort.OwnSortedInts
import Derived.Test.YtejipiadapggmaaTxs
namespace Go.Proofs.Ytejipiadapggmaa
set_option linter.unusedSimpArgs false
set_option linter.unusedVariables false
open Go.Shelf Go.RowKit Go.Lib Go.Sort
def lays112_ren : Go.Shelf.Ren := ⟨fun | 112 => 35 | n => n, fun | 0 => 0 | 3 => 3 | 4 => 4 | 28 => 24 | n => n, fun | n => n⟩
theorem lays112 : Lays.n112 Try.prog lays112_ren := {
  mixed := by kernel_rfl,
  f112 := Try.func35.trans (congrArg some (by kernel_rfl)),
  t0 := Try.underlying0,
  a0 := Try.isAgg0,
  z0 := Try.sizeOf0,
  v0 := Try.zeroValue0,
  t3 := Try.underlying3,
  a3 := Try.isAgg3,
  z3 := Try.sizeOf3,
  v3 := Try.zeroValue3,
  t4 := Try.underlying4,
  a4 := Try.isAgg4,
  z4 := Try.sizeOf4,
  v4 := Try.zeroValue4,
  t28 := Try.underlying24,
  a28 := Try.isAgg24,
  z28 := Try.sizeOf24,
  v28 := Try.zeroValue24 }
/-- slices.Reverse over a list of the call's own: the same slice owns the reversed list; no other block has turned. -/
theorem Reverse_int_any (base : Nat) (A : Option Addr) (n c : Nat) (zs : List Int) (w : World) (hn : n = zs.length) (hl : zs.length ≤ 4194304) (hO : AppI w base 3 (.slice A n c) zs) :
    Calls Try.prog 35 #[.slice A n c] w fun e w' => e = .returned (.tuple #[]) ∧ AppI w' base 3 (.slice A n c) zs.reverse ∧ w.grownBy w' (Value.ownBlock (.slice A n c)) := by
  subst hn
  by_cases h0 : zs = []
  · subst h0
    exact (Any.slices_Reverse_int_empty lays112 A c w).mono fun e w' ⟨he, hw⟩ => by
      subst hw
      exact ⟨he, hO, World.grownBy.refl _ _⟩
  · have hO' := hO
    rcases hO.2 with ⟨_, h2⟩ | ⟨g, cap, cur, hv, hbase, hb, h1, h2, h3, h4⟩
    · exact absurd (List.length_eq_zero_iff.1 h2) h0
    · cases hv
      have hown := OwnG.at_ hO.own
      have hH : Holds (Value.int .i64) w g 0 zs.toArray := by
        intro j hj
        have hj' : j < zs.length := by simpa using hj
        refine ⟨?_, frozen_of_row w g _ _ _ hb⟩
        have h := hown.2.2.2.2.1 j (by simpa [cellsI] using hj')
        rw [Nat.zero_add, h]
        simp [cellsI, hj']
      refine (Any.slices_Reverse_int lays112 g 0 c zs w hH (by omega)).mono fun e w' => ?_
      rintro ⟨he, N, rfl⟩
      have hs := ownsRow_sortedI (w := w) (base := base) (n := N) (os := #[]) (ss := zs) (ts := zs.reverse) (by simp) hbase hb h1 h2 h3
      have hg := grownBy_sortedI (w := w) (g := g) (n := N) (os := #[]) zs.reverse.toArray
      rw [grow_empty] at hs hg
      refine ⟨he, ?_, hg⟩
      unfold AppI
      rw [List.length_reverse]
      exact hs
set_option maxHeartbeats 400000 in
theorem Clip_int_any (A : Option Addr) (n c : Nat) (w : World) (hc : n ≤ c) :
    Calls Try.prog 36 #[.slice A n c] w fun e w' => e = .returned (.slice A n n) ∧ w = w' := by
  go_enter Try.func36, Try.ntmps36
  go_wp2
  all_goals (go_ret; exact ⟨rfl, rfl⟩)
end Go.Proofs.Ytejipiadapggmaa
