/- Serial schedules: contracts of IsSerial, the reference's and the program's. -/
import Derived.Test.YtlcaadjlghbcpaaFind
import Derived.Test.YtlcaadjlghbcpaaSch
namespace Go.Proofs.Ytlcaadjlghbcpaa
set_option linter.unusedSimpArgs false
set_option linter.unusedVariables false
open Go.RowKit

/-! ### The plain side -/
/-- Operation i is its transaction's, operation i+1 is not, and a later one k is again. -/
def GapS (l : List O3) (i k : Nat) : Prop := ∃ (hi : i + 1 < l.length) (hk : k < l.length), i + 2 ≤ k ∧ l[i].tx = l[k].tx ∧ l[i].tx ≠ l[i + 1].tx
/-- Operation m+1 is of another transaction than the one ahead of it, and of that of an earlier one. -/
def GapI (l : List O3) (m : Nat) : Prop := ∃ hm : m + 1 < l.length, l[m + 1].tx ≠ l[m].tx ∧ ((l.take (m + 1)).any fun o => o.tx == l[m + 1].tx) = true
def SerP (l : List O3) : Prop := ∀ m, ¬ GapI l m
theorem any_take_iff {l : List O3} {k : Nat} {t : Int} : ((l.take k).any fun o => o.tx == t) = true ↔ ∃ j, ∃ h : j < l.length, j < k ∧ l[j].tx = t := by
  rw [List.any_eq_true]
  constructor
  · rintro ⟨o, ho, h⟩
    obtain ⟨j, hj, hji, rfl⟩ := take_mem.1 ho
    exact ⟨j, hj, hji, by simpa using h⟩
  · rintro ⟨j, hj, hji, h⟩
    exact ⟨l[j], take_mem.2 ⟨j, hj, hji, rfl⟩, by simp [h]⟩
theorem gap_of_S {l : List O3} {i : Nat} : ∀ (d k : Nat), k = i + 2 + d → GapS l i k → ∃ m, GapI l m
  | 0, k, e, ⟨hi, hk, hik, h1, h2⟩ => by
    obtain rfl : k = i + 2 := by omega
    exact ⟨i + 1, hk, fun h => h2 (h1.trans h), any_take_iff.2 ⟨i, by omega, by omega, h1⟩⟩
  | d + 1, k, e, ⟨hi, hk, hik, h1, h2⟩ => by
    obtain ⟨m, rfl⟩ : ∃ m, k = m + 1 := ⟨i + 2 + d, by omega⟩
    by_cases h : l[m + 1].tx = l[m].tx
    · exact gap_of_S d m (by omega) ⟨hi, by omega, by omega, h1.trans h, h2⟩
    · exact ⟨m, hk, h, any_take_iff.2 ⟨i, by omega, by omega, h1⟩⟩
theorem gap_of_I {l : List O3} {m : Nat} (hm : m + 1 < l.length) (hne : l[m + 1].tx ≠ l[m].tx) : ∀ (d j : Nat) (hj : j < m + 1), m = j + d → (l[j]'(by omega)).tx = l[m + 1].tx → ∃ i k, GapS l i k
  | 0, j, hj, e, h => by
    obtain rfl : m = j := by omega
    exact absurd h.symm hne
  | d + 1, j, hj, e, h => by
    by_cases h1 : (l[j]'(by omega)).tx = (l[j + 1]'(by omega)).tx
    · exact gap_of_I hm hne d (j + 1) (by omega) (by omega) (h1.symm.trans h)
    · exact ⟨j, m + 1, by omega, hm, by omega, h, h1⟩
theorem ser_iff (l : List O3) : SerP l ↔ ∀ i k, ¬ GapS l i k := by
  constructor
  · intro h i k hg
    obtain ⟨m, hm⟩ := gap_of_S (k - (i + 2)) k (by have := hg.2.2.1; omega) hg
    exact h m hm
  · rintro h m ⟨hm, hne, ha⟩
    obtain ⟨j, hj, hjm, e⟩ := any_take_iff.1 ha
    obtain ⟨i, k, hg⟩ := gap_of_I hm hne (m - j) j hjm (by omega) e
    exact h i k hg

/-! ### The walks -/
theorem ContainsFunc_Op_take (A : Option Addr) (c : Nat) (l : List O3) (k : Nat) (F : FuncId) (caps : Array Value) (p : O3 → Bool) (w : World) (hl : l.length ≤ maxLen) (hR : RdO w w.heap.size A l) (hk : k ≤ l.length) (hF : TestOn Try.prog F caps w p l) :
    Calls Try.prog 76 #[.slice A k c, .func (.func F) #[] caps] w fun e w' => e = .returned (.bool ((l.take k).any p)) ∧ Below w.heap.size w w' := by
  have h := ContainsFunc_Op_any A c (l.take k) F caps p w (by rw [take_len hk]; omega) (hR.take k) ⟨hF.go, fun o ho => hF.test o (List.mem_of_mem_take ho)⟩
  rwa [take_len hk] at h
set_option maxHeartbeats 400000 in
theorem impl_IsSerial1_any (a b c : Int) (g g' : Nat) (A : Option Addr) (cc : Nat) (l : List O3) (k : Nat) (hk : k < l.length) (w : World) (hg : g < w.heap.size) (hg' : g' < w.heap.size) (hc : w.cell? ⟨g, 0, none⟩ = some (.slice A l.length cc)) (hc' : w.cell? ⟨g', 0, none⟩ = some (.int .i64 k)) (hR : RdO w w.heap.size A l) :
    Calls Try.prog 77 #[.agg #[.int .i64 a, .int .i64 b, .int .i64 c], .pointer (some ⟨g, 0, none⟩), .pointer (some ⟨g', 0, none⟩)] w fun e w' => e = .returned (.bool (a == l[k].tx)) ∧ Below w.heap.size w w' := by
  have hne : g ≠ w.heap.size := by omega
  have hne' : g' ≠ w.heap.size := by omega
  have hcc := fun o => (World.cell?_alloc_old w o ⟨g, 0, none⟩ hne).trans hc
  have hcc' := fun o => (World.cell?_alloc_old w o ⟨g', 0, none⟩ hne').trans hc'
  obtain ⟨bb, off, rfl, hb, h0, h1, h2⟩ := hR.at_ hk
  go_enter Try.func77, Try.ntmps77
  go_wp2_with fail
  ((first | (with_reducible refine wp_region_from (by with_reducible assumption) follows (by kernel_rfl) ?_) | (refine wp_region_aft follows (by kernel_rfl) ?_)); (repeat (go_big_quiet_step (fail))); refine wpQuiet_nil ?_; intro _ hw'; obtain ⟨⟨w1, hb⟩, rfl⟩ := hw'; (try dsimp only); first | (replace hb := Below.via hb (by with_reducible assumption); (try clear hbc hbf hbz); obtain ⟨hbc, hbf, hbz⟩ := bcell hb) | (obtain ⟨hbc, hbf, hbz⟩ := bcell hb))
  go_wp2
  go_ret
  exact ⟨rfl, by (repeat' (first | (with_reducible exact Below.refl _ _) | (with_reducible assumption) | (with_reducible refine Below.al ?_ _) | (with_reducible refine Below.drew ?_) | (with_reducible refine Below.drN ?_ _) | (with_reducible refine Below.via (by with_reducible assumption) ?_) | (with_reducible refine Below.setc ?_ ?_ _) | (with_reducible exact Nat.le_refl _) | (simp; done) | (simp; omega)))⟩
theorem impl_IsSerial1_test (g g' : Nat) (A : Option Addr) (cc : Nat) (l l' : List O3) (k : Nat) (hk : k < l.length) (w : World) (hg : g < w.heap.size) (hg' : g' < w.heap.size) (hc : w.cell? ⟨g, 0, none⟩ = some (.slice A l.length cc)) (hc' : w.cell? ⟨g', 0, none⟩ = some (.int .i64 k)) (hR : RdO w w.heap.size A l) : TestOn Try.prog 77 #[.pointer (some ⟨g, 0, none⟩), .pointer (some ⟨g', 0, none⟩)] w (fun o => o.tx == l[k].tx) l' :=
  ⟨Try.call77, fun o _ w1 hb => impl_IsSerial1_any o.tx o.kind o.item g g' A cc l k hk w1 (by have := hb.size; omega) (by have := hb.size; omega) ((hb.cell (p := ⟨g, 0, none⟩) hg).trans hc) ((hb.cell (p := ⟨g', 0, none⟩) hg').trans hc') (hR.on hb)⟩
/-- The number that a pointer's cell holds. -/
def atCell (p : Value) (w : World) : Nat := match p with
  | .pointer (some a) => (match w.cell? a with | some v => (intOf v).toNat | none => 0)
  | _ => 0
theorem atCell_eq {g : Nat} {w : World} {n : Int} (h : w.cell? ⟨g, 0, none⟩ = some (.int .i64 n)) : atCell (.pointer (some ⟨g, 0, none⟩)) w = n.toNat := by
  unfold atCell; simp only [h, intOf]
set_option maxHeartbeats 1000000 in
theorem impl_IsSerial_any (A : Option Addr) (c : Nat) (l : List O3) (w : World) (hl' : l.length ≤ maxLen) (hl : l.length ≤ 1048576) (hc : l.length ≤ c) (hR : RdO w w.heap.size A l) :
    Calls Try.prog 36 #[.slice A l.length c] w fun e w' => e = .returned (.bool (tt (ValidP l) && tt (SerP l))) ∧ Below w.heap.size w w' := by
  have HM := Lib.hid hl'; clear hl'
  go_enter Try.func36, Try.ntmps36
  go_wp2_with fail
  go_loopw [3] (fun p wr => ∃ k g : Nat, p = .pointer (some ⟨g, 0, none⟩) ∧ w.heap.size < g ∧ g < wr.heap.size ∧ wr.cell? ⟨g, 0, none⟩ = some (.int .i64 ((k : Int) + 1)) ∧ wr.cell? ⟨w.heap.size, 0, none⟩ = some (.slice A l.length c) ∧ k ≤ l.length ∧ (∀ m, m < k → ¬ GapI l m) ∧ Below w.heap.size w wr) (fun p wr => l.length + 1 - atCell p wr)
  case atStart => exact ⟨0, _, rfl, by simp, by simp, by simp, by simp, Nat.zero_le _, fun j h => by omega, by (repeat' (first | (with_reducible exact Below.refl _ _) | (with_reducible assumption) | (with_reducible refine Below.al ?_ _) | (with_reducible refine Below.drew ?_) | (with_reducible refine Below.drN ?_ _) | (with_reducible refine Below.via (by with_reducible assumption) ?_) | (with_reducible refine Below.setc ?_ ?_ _) | (with_reducible exact Nat.le_refl _) | (simp; done) | (simp; omega)))⟩
  case round =>
    obtain ⟨k, g, rfl, hg1, hg2, hcg, hcs, hk, hall, hbw⟩ := hrel
    have HA := Lib.hid hall; clear hall
    have HB := Lib.hid hbw; clear hbw
    have hm := atCell_eq hcg
    have hs0 : w.heap.size < wr.heap.size := by omega
    by_cases hlt : k + 1 < l.length
    · have hkl : k < l.length := by omega
      have hkc : k + 1 ≤ c := by omega
      have hRr := hR.on HB.out
      obtain ⟨b, off, rfl, hb, h0, h1, h2⟩ := hRr.at_ hkl
      obtain ⟨b', off', e', hb', h0', h1', h2'⟩ := hRr.at_ hlt
      simp only [Option.some.injEq, Addr.mk.injEq, and_true] at e'
      obtain ⟨rfl, rfl⟩ := e'
      have HR := Lib.hid hRr; clear hRr
      have HRs := Lib.hid (hR.on HB.out)
      rcases and2 (l[k + 1].tx != l[k].tx) ((l.take (k + 1)).any fun o => o.tx == l[k + 1].tx) with e1 | ⟨e1, e2⟩ | ⟨e1, e2⟩
      · go_wp2_with fail
        ((first | (with_reducible refine wp_region_from (by with_reducible assumption) follows (by kernel_rfl) ?_) | (refine wp_region_aft follows (by kernel_rfl) ?_)); (repeat (go_big_quiet_step (fail))); refine wpQuiet_nil ?_; intro _ hw'; obtain ⟨⟨w1, hb⟩, rfl⟩ := hw'; (try dsimp only); first | (replace hb := Below.via hb (by with_reducible assumption); (try clear hbc hbf hbz); obtain ⟨hbc, hbf, hbz⟩ := bcell hb) | (obtain ⟨hbc, hbf, hbz⟩ := bcell hb))
        go_wp2
        rename_i w'
        have hbw := HB.out
        have hsz := hb.size
        have hcg' : (w'.alloc (Obj.cells #[Value.int IntKind.i64 ((k : Int) + 1 + 1)] 3)).cell? ⟨w'.heap.size, 0, none⟩ = some (.int .i64 (((k + 1 : Nat) : Int) + 1)) := by simp
        refine ⟨⟨k + 1, w'.heap.size, rfl, by omega, by simp, hcg', ?_, by omega, all_below_succ HA.out (fun ⟨_, g1, _⟩ => g1 (by simpa using e1)), by (repeat' (first | (with_reducible exact Below.refl _ _) | (with_reducible assumption) | (with_reducible refine Below.al ?_ _) | (with_reducible refine Below.drew ?_) | (with_reducible refine Below.drN ?_ _) | (with_reducible refine Below.via (by with_reducible assumption) ?_) | (with_reducible refine Below.setc ?_ ?_ _) | (with_reducible exact Nat.le_refl _) | (simp; done) | (simp; omega)))⟩, by rw [atCell_eq hcg', hm]; omega⟩
        rw [World.cell?_alloc_lt w' _ _ (show w.heap.size < w'.heap.size by omega)]
        exact (hbc w.heap.size 0 hs0).trans hcs
      · have E2 := Lib.hid e2; clear e2
        go_wp2_with fail
        ((first | (with_reducible refine wp_region_from (by with_reducible assumption) follows (by kernel_rfl) ?_) | (refine wp_region_aft follows (by kernel_rfl) ?_)); (repeat (go_big_quiet_step ((go_at_call 76; exact aftb (ContainsFunc_Op_take _ _ l (k + 1) _ _ _ _ HM.out (HR.out.on (After.below _)) (by omega) (impl_IsSerial1_test w.heap.size g _ c l l (k + 1) hlt _ (by first | (have := (After.below ‹After wr›).size; omega)) (by first | (have := (After.below ‹After wr›).size; omega)) ((After.below _).cell (p := ⟨w.heap.size, 0, none⟩) hs0 |>.trans hcs) ((After.below _).cell (p := ⟨g, 0, none⟩) hg2 |>.trans hcg) (HR.out.on (After.below _)))) E2.out)))); refine wpQuiet_nil ?_; intro _ hw'; obtain ⟨⟨w1, hb⟩, rfl⟩ := hw'; (try dsimp only); first | (replace hb := Below.via hb (by with_reducible assumption); (try clear hbc hbf hbz); obtain ⟨hbc, hbf, hbz⟩ := bcell hb) | (obtain ⟨hbc, hbf, hbz⟩ := bcell hb))
        go_wp2
        rename_i w'
        have hbw := HB.out
        have hsz := hb.size
        have hcg' : (w'.alloc (Obj.cells #[Value.int IntKind.i64 ((k : Int) + 1 + 1)] 3)).cell? ⟨w'.heap.size, 0, none⟩ = some (.int .i64 (((k + 1 : Nat) : Int) + 1)) := by simp
        refine ⟨⟨k + 1, w'.heap.size, rfl, by omega, by simp, hcg', ?_, by omega, all_below_succ HA.out (fun ⟨_, _, g2⟩ => by rw [E2.out] at g2; cases g2), by (repeat' (first | (with_reducible exact Below.refl _ _) | (with_reducible assumption) | (with_reducible refine Below.al ?_ _) | (with_reducible refine Below.drew ?_) | (with_reducible refine Below.drN ?_ _) | (with_reducible refine Below.via (by with_reducible assumption) ?_) | (with_reducible refine Below.setc ?_ ?_ _) | (with_reducible exact Nat.le_refl _) | (simp; done) | (simp; omega)))⟩, by rw [atCell_eq hcg', hm]; omega⟩
        rw [World.cell?_alloc_lt w' _ _ (show w.heap.size < w'.heap.size by omega)]
        exact (hbc w.heap.size 0 hs0).trans hcs
      · have E2 := Lib.hid e2; clear e2
        go_wp2_with fail
        ((first | (with_reducible refine wp_region_from (by with_reducible assumption) follows (by kernel_rfl) ?_) | (refine wp_region_aft follows (by kernel_rfl) ?_)); (repeat (go_big_quiet_step ((go_at_call 76; exact aftb (ContainsFunc_Op_take _ _ l (k + 1) _ _ _ _ HM.out (HR.out.on (After.below _)) (by omega) (impl_IsSerial1_test w.heap.size g _ c l l (k + 1) hlt _ (by first | (have := (After.below ‹After wr›).size; omega)) (by first | (have := (After.below ‹After wr›).size; omega)) ((After.below _).cell (p := ⟨w.heap.size, 0, none⟩) hs0 |>.trans hcs) ((After.below _).cell (p := ⟨g, 0, none⟩) hg2 |>.trans hcg) (HR.out.on (After.below _)))) E2.out)))); refine wpQuiet_nil ?_; intro _ hw'; obtain ⟨⟨w1, hb⟩, rfl⟩ := hw'; (try dsimp only); first | (replace hb := Below.via hb (by with_reducible assumption); (try clear hbc hbf hbz); obtain ⟨hbc, hbf, hbz⟩ := bcell hb) | (obtain ⟨hbc, hbf, hbz⟩ := bcell hb))
        go_wp2
        go_ret
        have h : ¬ SerP l := fun h => h k ⟨hlt, by simpa using e1, E2.out⟩
        exact ⟨ret_bool (by rw [tt_false h]; simp), by have hbw := HB.out; (repeat' (first | (with_reducible exact Below.refl _ _) | (with_reducible assumption) | (with_reducible refine Below.al ?_ _) | (with_reducible refine Below.drew ?_) | (with_reducible refine Below.drN ?_ _) | (with_reducible refine Below.via (by with_reducible assumption) ?_) | (with_reducible refine Below.setc ?_ ?_ _) | (with_reducible exact Nat.le_refl _) | (simp; done) | (simp; omega)))⟩
    · have h : SerP l := fun m hg => HA.out m (by have := hg.1; omega) hg
      have hbw := HB.out
      have HRs := Lib.hid (hR.on HB.out)
      go_wp2_with (go_at_call 19; refine (impl_ValidSchedule_any _ _ _ _ HM.out hc HRs.out).mono ?_; rintro e w1 ⟨rfl, hb1⟩)
      go_ret
      exact ⟨ret_bool (by rw [tt_true h, Bool.and_true]), by (repeat' (first | (with_reducible exact Below.refl _ _) | (with_reducible assumption) | (with_reducible refine Below.al ?_ _) | (with_reducible refine Below.drew ?_) | (with_reducible refine Below.drN ?_ _) | (with_reducible refine Below.via (by with_reducible assumption) ?_) | (with_reducible refine Below.setc ?_ ?_ _) | (with_reducible exact Nat.le_refl _) | (simp; done) | (simp; omega)))⟩
end Go.Proofs.Ytlcaadjlghbcpaa
