/- Locks by a tree of items: contract of the program's IsTreeLocked. -/
import Derived.Test.YtejipiadapggmaaTlS
import Derived.Test.YtejipiadapggmaaTxs
import Derived.Test.YtejipiadapggmaaLkI
import Derived.Deep.RegionLaw
import Derived.Deep.AppendLies
namespace Go.Proofs.Ytejipiadapggmaa
set_option linter.unusedSimpArgs false
set_option linter.unusedVariables false
open Go.RowKit
/-- Four slices of numbers in one block, each with a row of its own. -/
structure TkAt (w : World) (B g5 g : Nat) (ls : Nat → List Int) (As : Nat → Option Addr) (cs : Nat → Nat) : Prop where
  c : w.heap[g5]? = some (.cells #[.slice (As 0) (ls 0).length (cs 0), .slice (As 1) (ls 1).length (cs 1), .slice (As 2) (ls 2).length (cs 2), .slice (As 3) (ls 3).length (cs 3)] 74 (0, 0))
  own : ∀ t, t < 4 → AppI w B 3 (.slice (As t) (ls t).length (cs t)) (ls t)
  sep : ∀ t u, t < 4 → u < 4 → t ≠ u → ∀ k, (Value.slice (As t) (ls t).length (cs t)).ownBlock = some k → (Value.slice (As u) (ls u).length (cs u)).ownBlock ≠ some k
  far : ∀ t, t < 4 → (Value.slice (As t) (ls t).length (cs t)).ownBlock ≠ some g5 ∧ (Value.slice (As t) (ls t).length (cs t)).ownBlock ≠ some g
section
variable {w w' W w5 : World} {B g5 g : Nat} {ls ls' : Nat → List Int} {As : Nat → Option Addr} {cs : Nat → Nat}
theorem TkAt.cell (h : TkAt w B g5 g ls As cs) {n : Nat} (hn : n < 4) : w.cell? ⟨g5, n, none⟩ = some (.slice (As n) (ls n).length (cs n)) ∧ w.frozen? ⟨g5, n, none⟩ = false := by
  refine ⟨?_, frozen_of_row w g5 n _ _ h.c⟩
  rw [cell_of_row w g5 _ _ _ (0, 0) h.c]
  match n, hn with
  | 0, _ => rfl
  | 1, _ => rfl
  | 2, _ => rfl
  | 3, _ => rfl
theorem TkAt.on (h : TkAt w B g5 g ls As cs) (hb : Below w.heap.size w w') : TkAt w' B g5 g ls As cs :=
  ⟨(hb.block _ (lt_of_block h.c)).trans h.c, fun t ht => row_kept (h.own t ht) hb.block, h.sep, h.far⟩
theorem TkAt.gr (h : TkAt w B g5 g ls As cs) (hg : w.grownBy w' (some g)) (hne : g5 ≠ g) : TkAt w' B g5 g ls As cs :=
  ⟨(hg.block _ (lt_of_block h.c) (by simpa using hne)).trans h.c, fun t ht => World.ownsRow.kept (h.own t ht) hg (.inr (h.far t ht).2), h.sep, h.far⟩
theorem TkAt.same (h : TkAt w B g5 g ls As cs) (e : ∀ t, t < 4 → ls' t = ls t) : TkAt w B g5 g ls' As cs := by
  refine ⟨by rw [e 0 (by omega), e 1 (by omega), e 2 (by omega), e 3 (by omega)]; exact h.c, fun t ht => by rw [e t ht]; exact h.own t ht, fun t u ht hu hne k hk => by rw [e t ht] at hk; rw [e u hu]; exact h.sep t u ht hu hne k hk, fun t ht => by rw [e t ht]; exact h.far t ht⟩
/-- one of the slices appended to, and stored anew -/
theorem TkAt.app (h : TkAt W B g5 g ls As cs) {n g' cap : Nat} {x : Int} (hn : n < 4) (hg5 : g5 < W.heap.size) (hgl : g < W.heap.size) (hB : B ≤ g5)
    (hown : w5.ownsRow B 3 1 (.slice (some ⟨g', 0, none⟩) ((ls n).length + 1) cap) ((ls n).length + 1) (cellsI (ls n) ++ cellsI [x]))
    (hgr : W.grownBy w5 (Value.slice (As n) (ls n).length (cs n)).ownBlock) (hl : (Value.slice (As n) (ls n).length (cs n)).ownBlock = some g' ∨ g' = W.heap.size)
    (e : ∀ t, t < 4 → ls' t = if t = n then ls n ++ [x] else ls t) :
    TkAt (w5.setCell ⟨g5, n, none⟩ (.slice (some ⟨g', 0, none⟩) ((ls n).length + 1) cap)) B g5 g ls' (fun t => if t = n then some ⟨g', 0, none⟩ else As t) (fun t => if t = n then cap else cs t) := by
  have hk5 : w5.heap[g5]? = _ := (hgr.block g5 hg5 (fun e => (h.far n hn).1 e.symm)).trans h.c
  have gs : w5.grownBy (w5.setCell ⟨g5, n, none⟩ (.slice (some ⟨g', 0, none⟩) ((ls n).length + 1) cap)) (some g5) := ⟨rfl, rfl, rfl, by simp, fun k _ hne => Below.heap_setCell w5 ⟨g5, n, none⟩ _ k (fun e => hne (by rw [e]))⟩
  have hob : ∀ t, t < 4 → ∀ k, (Value.slice (As t) (ls t).length (cs t)).ownBlock = some k → k < W.heap.size := fun t ht k hk => ((h.own t ht).lt k hk).2
  have hnew : ∀ k, k < W.heap.size → (Value.slice (As n) (ls n).length (cs n)).ownBlock ≠ some k → g' ≠ k := fun k hk hne => by
    rcases hl with hl | hl
    · rw [hl] at hne; simpa using hne
    · omega
  have hown' : ∀ t, t < 4 → t ≠ n → AppI w5 B 3 (.slice (As t) (ls t).length (cs t)) (ls t) := fun t ht hne =>
    World.ownsRow.kept (h.own t ht) hgr (by
      cases hv : (Value.slice (As t) (ls t).length (cs t)).ownBlock with
      | none => exact .inl rfl
      | some q => refine .inr (fun e => ?_); exact h.sep t n ht hn hne q hv e.symm)
  have hval : ∀ t, t < 4 → Value.slice (if t = n then some ⟨g', 0, none⟩ else As t) (ls' t).length (if t = n then cap else cs t) = if t = n then Value.slice (some ⟨g', 0, none⟩) ((ls n).length + 1) cap else Value.slice (As t) (ls t).length (cs t) := fun t ht => by
    rw [e t ht]
    by_cases h1 : t = n
    · simp [h1]
    · simp [h1]
  refine ⟨?_, fun t ht => ?_, fun t u ht hu hne k hk => ?_, fun t ht => ?_⟩
  · rw [hval 0 (by omega), hval 1 (by omega), hval 2 (by omega), hval 3 (by omega)]
    rw [heap_setCell_same w5 g5 n _ _ _ hk5]
    match n, hn with
    | 0, _ => rfl
    | 1, _ => rfl
    | 2, _ => rfl
    | 3, _ => rfl
  · show AppI _ _ _ (Value.slice (if t = n then some ⟨g', 0, none⟩ else As t) (ls' t).length (if t = n then cap else cs t)) (ls' t)
    rw [hval t ht, e t ht]
    by_cases h1 : t = n
    · subst h1
      simp only [if_true]
      unfold AppI
      rw [List.length_append]
      exact World.ownsRow.kept (by simpa [cellsI] using hown) gs (.inr (by
        have := hnew g5 hg5 (h.far t ht).1
        simp [Value.ownBlock]; exact this))
    · simp only [h1, if_false]
      exact World.ownsRow.kept (hown' t ht h1) gs (.inr (h.far t ht).1)
  · rw [hval t ht] at hk
    rw [hval u hu]
    by_cases h1 : t = n
    · subst h1
      have h2 : u ≠ t := fun e => hne e.symm
      simp only [if_true, h2, if_false] at hk ⊢
      have hkg : g' = k := by simpa [Value.ownBlock] using hk
      subst hkg
      rcases hl with hl | hl
      · exact h.sep t u ht hu hne _ hl
      · intro e2; have := hob u hu _ e2; omega
    · by_cases h2 : u = n
      · subst h2
        simp only [if_true, h1, if_false] at hk ⊢
        have := hnew k (hob t ht k hk) (h.sep t u ht hu hne k hk)
        simp [Value.ownBlock]; exact this
      · simp only [h1, h2, if_false] at hk ⊢
        exact h.sep t u ht hu hne k hk
  · rw [hval t ht]
    by_cases h1 : t = n
    · subst h1
      simp only [if_true]
      have a1 := hnew g5 hg5 (h.far t ht).1
      have a2 := hnew g hgl (h.far t ht).2
      simp [Value.ownBlock]; exact ⟨a1, a2⟩
    · simp only [h1, if_false]
      exact h.far t ht
end
end Go.Proofs.Ytejipiadapggmaa
