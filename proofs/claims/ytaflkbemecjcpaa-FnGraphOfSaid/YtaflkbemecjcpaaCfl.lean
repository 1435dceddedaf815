/- Pairs that conflict: how many there are, where each stands, and when two lists of pairs are equal. -/
import Derived.Test.YtaflkbemecjcpaaCfs
import Derived.Test.YtaflkbemecjcpaaLawsD
import Derived.Test.YtaflkbemecjcpaaSome
namespace Go.Proofs.Ytaflkbemecjcpaa
set_option linter.unusedSimpArgs false
set_option linter.unusedVariables false
open Go.RowKit

/-! ### The plain side -/
def cnt : List O3 → Nat
  | [] => 0
  | x :: l => (l.filter (conflB x)).length + cnt l
theorem cnt_sub {l' l : List O3} (h : l'.Sublist l) : cnt l' ≤ cnt l := by
  induction h with
  | slnil => exact Nat.le_refl _
  | cons a h ih => simp only [cnt]; omega
  | cons_cons a h ih =>
    have := (h.filter (conflB a)).length_le
    simp only [cnt]; omega
theorem rowP_cnt {l : List O3} {i : Nat} (hi : i < l.length) : ∀ m, i + 1 + m ≤ l.length → (rowP l i (i + 1 + m)).length = (((l.drop (i + 1)).take m).filter (conflB l[i])).length := by
  intro m
  induction m with
  | zero => intro _; rw [Nat.add_zero, rowP_start]; simp
  | succ m ih =>
    intro h
    have hk : i + 1 + m < l.length := by omega
    have hd : m < (l.drop (i + 1)).length := by rw [List.length_drop]; omega
    have hg : (l.drop (i + 1))[m] = l[i + 1 + m] := by rw [List.getElem_drop]
    rw [List.take_succ_eq_append_getElem hd, List.filter_append, List.length_append, ← ih (by omega), hg, ← Nat.add_assoc]
    cases hc : conflB l[i] l[i + 1 + m]
    · rw [rowP_no ((cfAt_eq hi hk).trans hc)]; simp [hc]
    · rw [rowP_yes (by omega) ((cfAt_eq hi hk).trans hc)]; simp [hc]
theorem allP_cnt (l : List O3) : ∀ i, i ≤ l.length → (allP l i).length + cnt (l.drop i) = cnt l := by
  intro i
  induction i with
  | zero => intro _; simp [allP]
  | succ i ih =>
    intro h
    have hi : i < l.length := by omega
    have h1 := ih (by omega)
    rw [List.drop_eq_getElem_cons hi] at h1
    have h2 := rowP_cnt hi (l.length - (i + 1)) (by omega)
    rw [show i + 1 + (l.length - (i + 1)) = l.length by omega, List.take_of_length_le (by rw [List.length_drop]; omega)] at h2
    simp only [allP, List.length_append, cnt] at h1 ⊢
    omega
theorem cfsL_cnt (l : List O3) : (cfsL l).length = cnt l := by
  have := allP_cnt l l.length (Nat.le_refl _)
  unfold cfsL
  simpa [cnt] using this
theorem cfs_com (l : List O3) : (cfsL (comL l)).length ≤ (cfsL l).length := by
  rw [cfsL_cnt, cfsL_cnt]
  exact cnt_sub List.filter_sublist
theorem rowP_pre (l : List O3) (i k : Nat) : ∀ m, k ≤ m → rowP l i k <+: rowP l i m := by
  intro m
  induction m with
  | zero => intro h; have : k = 0 := by omega
            subst this; exact List.prefix_refl _
  | succ m ih =>
    intro h
    by_cases e : k = m + 1
    · subst e; exact List.prefix_refl _
    · have h1 := ih (by omega)
      by_cases him : i < m ∧ cfAt l i m = true
      · rw [rowP_yes him.1 him.2]; exact h1.trans (List.prefix_append _ _)
      · have : rowP l i (m + 1) = rowP l i m := by
          unfold rowP
          rw [List.range_succ, List.filter_append, List.map_append]
          have : (decide (i < m) && cfAt l i m) = false := by
            cases hc : cfAt l i m
            · simp
            · simp only [hc, and_true] at him; simp [him]
          simp [this]
        rw [this]; exact h1
theorem allP_pre (l : List O3) (i : Nat) : ∀ m, i ≤ m → allP l i <+: allP l m := by
  intro m
  induction m with
  | zero => intro h; have : i = 0 := by omega
            subst this; exact List.prefix_refl _
  | succ m ih =>
    intro h
    by_cases e : i = m + 1
    · subst e; exact List.prefix_refl _
    · exact (ih (by omega)).trans (List.prefix_append _ _)
theorem cfs_get {l : List O3} {i k : Nat} (hik : i < k) (hk : k < l.length) (h : cfAt l i k = true) : (cfsL l)[(cfsTo l i k).length]? = some ((i : Int), (k : Int)) := by
  have h1 : cfsTo l i (k + 1) <+: cfsL l := by
    refine List.IsPrefix.trans ?_ (allP_pre l (i + 1) l.length (by omega))
    unfold cfsTo
    exact (List.prefix_append_right_inj _).2 (rowP_pre l i (k + 1) l.length (by omega))
  rw [cfsTo_yes hik h] at h1
  obtain ⟨t, ht⟩ := h1
  rw [← ht]
  simp

/-! ### Two lists of pairs -/
theorem CRg.at_ {w : World} {B n c : Nat} {A : Option Addr} {rn : List (Nat × Int × Int)} (h : CRg w B (.slice A n c) rn) {k : Nat} (hk : k < rn.length) :
    ∃ g, A = some ⟨g, 0, none⟩ ∧ g < w.heap.size ∧ w.cell? ⟨g, k, none⟩ = some (rowV rn[k]) ∧ RdI w w.heap.size (some ⟨rn[k].1, 0, none⟩) [rn[k].2.1, rn[k].2.2] := by
  have h' := h.own
  rcases h' with ⟨e, hn, _⟩ | ⟨g, cap, cur, e, hb, hg, hnc, hcm, ht⟩
  · omega
  · injection e with e1 e2 e3
    subst e1 e2 e3
    obtain ⟨h1, h2, _, _, h5, _⟩ := h.own.at_
    have hr := (h.row rn[k] (List.getElem_mem hk)).2.2
    refine ⟨g, rfl, h2, by rw [h5 k (by simpa using hk)]; simp [hk], fun _ => ⟨_, 0, rfl, lt_of_block hr, fun j hj => ?_⟩⟩
    rw [cell_of_row w _ _ _ _ (0, 0) hr]
    match j, hj with
    | 0, _ => rfl
    | 1, _ => rfl
end Go.Proofs.Ytaflkbemecjcpaa
