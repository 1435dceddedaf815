/- Two schedules with one order of conflicts: the plain side. -/
import Derived.Test.YtaflkbemecjcpaaGrM
namespace Go.Proofs.Ytaflkbemecjcpaa
set_option linter.unusedSimpArgs false
set_option linter.unusedVariables false
open Go.RowKit

def oL (l : List O3) (t : Int) : List O3 := l.filter fun o => o.tx == t
def eqLB : List O3 → List O3 → Bool
  | [], [] => true
  | x :: xs, y :: ys => O3.eqb x y && eqLB xs ys
  | _, _ => false
theorem eqLB_iff : ∀ (x y : List O3), eqLB x y = true ↔ x = y
  | [], [] => by simp [eqLB]
  | [], _ :: _ => by simp [eqLB]
  | _ :: _, [] => by simp [eqLB]
  | a :: x, b :: y => by simp only [eqLB, Bool.and_eq_true, O3.eqb_iff, eqLB_iff x y, List.cons.injEq]
theorem eqLB_len {x y : List O3} (h : x.length ≠ y.length) : eqLB x y = false := by
  rw [Bool.eq_false_iff]; intro e; exact h (by rw [(eqLB_iff x y).1 e])
theorem eqLB_at {x y : List O3} {k : Nat} (hx : k < x.length) (hy : k < y.length) (h : O3.eqb x[k] y[k] = false) : eqLB x y = false := by
  rw [Bool.eq_false_iff]; intro e
  have e' := (eqLB_iff x y).1 e
  subst e'
  rw [O3.eqb_self] at h; cases h
theorem eqLB_all {x y : List O3} (hl : x.length = y.length) (h : ∀ j (hx : j < x.length) (hy : j < y.length), O3.eqb x[j] y[j] = true) : eqLB x y = true := by
  rw [eqLB_iff]
  exact List.ext_getElem hl fun j hx hy => (O3.eqb_iff _ _).1 (h j hx hy)
def sameB (a b : List O3) : Bool := (List.range 4).all fun t : Nat => eqLB (oL a t) (oL b t)
theorem same_to {a b : List O3} {t : Nat} (ht : t < (List.range 4).length) (h : ((List.range 4).take t).all (fun t : Nat => eqLB (oL a t) (oL b t)) = true) (h1 : eqLB (oL a t) (oL b t) = true) : ((List.range 4).take (t + 1)).all (fun t : Nat => eqLB (oL a t) (oL b t)) = true :=
  take_all_succ ht h (by simpa using h1)
theorem same_no {a b : List O3} {t : Nat} (ht : t < (List.range 4).length) (h1 : eqLB (oL a t) (oL b t) = false) : sameB a b = false :=
  all_false ht (by simpa using h1)
/-- How many of a transaction's operations stand in the first k. -/
def numTo (l : List O3) (t : Int) (k : Nat) : Nat := ((l.take k).filter fun o => o.tx == t).length
theorem num_yes {l : List O3} {t : Int} {k : Nat} (hk : k < l.length) (h : (l[k].tx == t) = true) : numTo l t (k + 1) = numTo l t k + 1 := by
  unfold numTo
  rw [List.take_succ_eq_append_getElem hk, List.filter_append]
  simp [h]
theorem num_no {l : List O3} {t : Int} {k : Nat} (hk : k < l.length) (h : (l[k].tx == t) = false) : numTo l t (k + 1) = numTo l t k := by
  unfold numTo
  rw [List.take_succ_eq_append_getElem hk, List.filter_append]
  simp [h]
theorem num_le (l : List O3) (t : Int) (k : Nat) : numTo l t k ≤ k := by
  unfold numTo
  exact Nat.le_trans (List.length_filter_le _ _) (by rw [List.length_take]; omega)
theorem num_mono (l : List O3) (t : Int) {i j : Nat} (h : i ≤ j) : numTo l t i ≤ numTo l t j := by
  unfold numTo
  have e : l.take i = (l.take j).take i := by rw [List.take_take]; congr 1; omega
  rw [e]
  exact List.Sublist.length_le ((List.take_sublist i (l.take j)).filter _)
theorem num_lt {l : List O3} {t : Int} {i j : Nat} (hi : i < l.length) (h : (l[i].tx == t) = true) (hij : i < j) : numTo l t i < numTo l t j := by
  have h1 := num_yes hi h
  have h2 := num_mono l t (show i + 1 ≤ j by omega)
  omega
def txI (l : List O3) (i : Nat) : Int := if h : i < l.length then l[i].tx else -1
theorem txI_eq {l : List O3} {i : Nat} (h : i < l.length) : txI l i = l[i].tx := by unfold txI; rw [dif_pos h]
def nmI (l : List O3) (i : Nat) : Nat := numTo l (txI l i) i
theorem nm_inj {l : List O3} {i j : Nat} (hi : i < l.length) (hj : j < l.length) (h1 : txI l i = txI l j) (h2 : nmI l i = nmI l j) : i = j := by
  unfold nmI at h2
  rcases Nat.lt_trichotomy i j with h | h | h
  · have := num_lt hi (t := txI l i) (by rw [txI_eq hi]; simp) h
    rw [h1] at this h2; omega
  · exact h
  · have := num_lt hj (t := txI l j) (by rw [txI_eq hj]; simp) h
    rw [h1] at h2; omega
/-- An operation is that with this number of its transaction. -/
def isP (l : List O3) (t : Int) (k : Int) (i : Nat) : Bool := txI l i == t && (numTo l t i : Int) == k
def placeV (l : List O3) (t k : Int) : Int := idxB (isP l t k) (List.range l.length)
theorem place_of {l : List O3} {j : Nat} (hj : j < l.length) : placeV l (txI l j) (nmI l j) = j := by
  unfold placeV
  have hj' : j < (List.range l.length).length := by simpa using hj
  refine (idx_hit hj' ?_ ?_).symm
  · rw [take_none_iff]
    intro i hi hij
    rw [List.getElem_range]
    have hil : i < l.length := by omega
    cases h : isP l (txI l j) (nmI l j) i
    · rfl
    · exfalso
      simp only [isP, Bool.and_eq_true, beq_iff_eq] at h
      have := nm_inj hil hj h.1 (by unfold nmI at h ⊢; rw [h.1]; omega)
      omega
  · rw [List.getElem_range]
    simp [isP, nmI]
theorem oL_num (l : List O3) (t : Int) : (oL l t).length = numTo l t l.length := by unfold oL numTo; rw [List.take_length]
theorem num_hit (l : List O3) (t : Int) : ∀ (n k : Nat), n ≤ l.length → k < numTo l t n → ∃ j, ∃ hj : j < l.length, (l[j].tx == t) = true ∧ numTo l t j = k
  | 0, k, _, h => by simp [numTo] at h
  | n + 1, k, hn, h => by
    have hnl : n < l.length := by omega
    cases e : (l[n].tx == t)
    · rw [num_no hnl e] at h
      exact num_hit l t n k (by omega) h
    · rw [num_yes hnl e] at h
      by_cases hk : k = numTo l t n
      · exact ⟨n, hnl, e, hk.symm⟩
      · exact num_hit l t n k (by omega) (by omega)
/-- In schedules with the same operations of each transaction each operation has its place in the other one. -/
theorem same_place {a b : List O3} (hv : ∀ o ∈ a, validB o = true) (h : sameB a b = true) {i : Nat} (hi : i < a.length) : ∃ j, j < b.length ∧ txI b j = txI a i ∧ nmI b j = nmI a i := by
  obtain ⟨n, hn, hn3⟩ : ∃ n : Nat, a[i].tx = n ∧ n ≤ 3 := by
    have h3 := hv _ (List.getElem_mem hi)
    simp [validB, inR] at h3
    exact ⟨a[i].tx.toNat, by omega, by omega⟩
  have h1 := List.all_eq_true.1 h n (by simp; omega)
  have h2 := (eqLB_iff _ _).1 h1
  have h3 : numTo a n a.length = numTo b n b.length := by rw [← oL_num, ← oL_num, h2]
  have h4 : numTo a n i < numTo a n a.length := num_lt hi (by rw [hn]; simp) hi
  obtain ⟨j, hj, h5, h6⟩ := num_hit b n b.length (numTo a n i) (Nat.le_refl _) (by omega)
  have e1 : txI b j = n := by rw [txI_eq hj]; simpa using h5
  have e2 : txI a i = n := by rw [txI_eq hi]; exact hn
  exact ⟨j, hj, by rw [e1, e2], by unfold nmI; rw [e1, e2]; exact h6⟩
def plI (a b : List O3) (i : Nat) : Int := placeV b (txI a i) (nmI a i)
/-- The order of two operations is another one. -/
def violS (a b : List O3) (i k : Nat) : Bool := cfAt a i k && decide (plI a b k < plI a b i)
def violI (a b : List O3) (i k : Nat) : Bool := cfAt a i k && (decide ((i : Int) < k) != decide (plI a b i < plI a b k))
noncomputable def smB (a b : List O3) : Bool := tt (∀ i k, i < k → k < a.length → violS a b i k = false)
theorem cfAt_comm (l : List O3) (i k : Nat) : cfAt l i k = cfAt l k i := by
  by_cases h : i < l.length ∧ k < l.length
  · rw [cfAt_eq h.1 h.2, cfAt_eq h.2 h.1, confl_comm]
  · unfold cfAt; rw [dif_neg h, dif_neg (fun h' => h ⟨h'.2, h'.1⟩)]
theorem cfAt_self (l : List O3) (i : Nat) : cfAt l i i = false := by
  unfold cfAt
  split
  · exact confl_self _
  · rfl
theorem viol_iff {a b : List O3} (hv : ∀ o ∈ a, validB o = true) (h : sameB a b = true) {i k : Nat} (hi : i < a.length) (hk : k < a.length) (hik : i < k) : violI a b i k = violS a b i k ∧ violI a b k i = violS a b i k := by
  unfold violI violS
  cases hc : cfAt a i k
  · rw [cfAt_comm a k i, hc]; simp
  · rw [cfAt_comm a k i, hc]
    have hne : plI a b i ≠ plI a b k := by
      obtain ⟨j1, hj1, e1, e2⟩ := same_place hv h hi
      obtain ⟨j2, hj2, e3, e4⟩ := same_place hv h hk
      unfold plI
      rw [← e1, ← e2, ← e3, ← e4, place_of hj1, place_of hj2]
      intro e
      have e' : j1 = j2 := by omega
      subst e'
      rw [cfAt_eq hi hk] at hc
      simp only [conflB, Bool.and_eq_true, bne_iff_ne, ne_eq] at hc
      rw [txI_eq hi] at e1
      rw [txI_eq hk] at e3
      exact hc.1 (by rw [← e1, ← e3])
    have h1 : ((i : Int) < k) := by omega
    have h2 : ¬ ((k : Int) < i) := by omega
    simp only [Bool.true_and, h1, h2, decide_true, decide_false]
    by_cases hq : plI a b i < plI a b k
    · have : ¬ plI a b k < plI a b i := by omega
      simp [hq, this]
    · have : plI a b k < plI a b i := by omega
      simp [hq, this]
theorem sm_of_all {a b : List O3} (hv : ∀ o ∈ a, validB o = true) (h : sameB a b = true) (hall : ∀ i k, i < a.length → k < a.length → violI a b i k = false) : smB a b = true := by
  refine tt_true fun i k hik hk => ?_
  rw [← (viol_iff hv h (by omega) hk hik).1]
  exact hall i k (by omega) hk
theorem sm_of_one {a b : List O3} (hv : ∀ o ∈ a, validB o = true) (h : sameB a b = true) {i k : Nat} (hi : i < a.length) (hk : k < a.length) (hx : violI a b i k = true) : smB a b = false := by
  refine tt_false fun hall => ?_
  rcases Nat.lt_trichotomy i k with hik | hik | hik
  · rw [(viol_iff hv h hi hk hik).1, hall i k hik hk] at hx; cases hx
  · subst hik; simp [violI, cfAt_self] at hx
  · rw [(viol_iff hv h hk hi hik).2, hall k i hik hi] at hx; cases hx
noncomputable def isV (a b : List O3) : Bool := tt (ValidP a) && (tt (ValidP b) && (sameB a b && smB a b))
end Go.Proofs.Ytaflkbemecjcpaa
