/- What does not conflict may be exchanged: the plain side. -/
import Derived.Test.YtaflkbemecjcpaaSmM
import Derived.Test.YtaflkbemecjcpaaSwap
import Derived.Test.YtaflkbemecjcpaaPl
namespace Go.Proofs.Ytaflkbemecjcpaa
set_option linter.unusedSimpArgs false
set_option linter.unusedVariables false
open Go.RowKit

theorem swap_form {l : List O3} {k : Nat} (hk : k + 1 < l.length) : l = l.take k ++ l[k] :: l[k + 1] :: l.drop (k + 2) ∧ swapL l k = l.take k ++ l[k + 1] :: l[k] :: l.drop (k + 2) := by
  have h1 : l = l.take k ++ l[k] :: l[k + 1] :: l.drop (k + 2) := by
    have e1 : l.drop k = l[k] :: l.drop (k + 1) := List.drop_eq_getElem_cons (by omega)
    have e2 : l.drop (k + 1) = l[k + 1] :: l.drop (k + 1 + 1) := List.drop_eq_getElem_cons hk
    rw [e2] at e1
    rw [← e1, List.take_append_drop]
  refine ⟨h1, ?_⟩
  unfold swapL
  rw [dif_pos hk]
  generalize hx : l[k] = x at h1 ⊢
  generalize hy : l[k + 1] = y at h1 ⊢
  have hlen : (l.take k).length = k := by rw [List.length_take]; omega
  generalize hA : l.take k = A at h1 hlen ⊢
  generalize hB : l.drop (k + 2) = B at h1 ⊢
  rw [h1]
  subst hlen
  rw [show (A ++ x :: y :: B).set A.length y = A ++ y :: y :: B by simp [List.set_append]]
  simp [List.set_append]
section
variable {A B : List O3} {x y : O3}
theorem fil_swap (hne : x.tx ≠ y.tx) (t : Int) : (A ++ x :: y :: B).filter (fun o => o.tx == t) = (A ++ y :: x :: B).filter (fun o => o.tx == t) := by
  simp only [List.filter_append]
  congr 1
  by_cases h1 : x.tx = t
  · have h2 : ¬ y.tx = t := fun h => hne (h1.trans h.symm)
    simp [List.filter_cons, h1, h2]
  · simp [List.filter_cons, h1]
theorem endL_swap (hne : x.tx ≠ y.tx) (t : Int) : endL (A ++ x :: y :: B) t = endL (A ++ y :: x :: B) t := by rw [endL_ops, endL_ops, fil_swap hne]
theorem valid_swap (hne : x.tx ≠ y.tx) (h : ValidP (A ++ x :: y :: B)) : ValidP (A ++ y :: x :: B) := by
  rw [valid_iff] at h ⊢
  obtain ⟨h1, h2, h3⟩ := h
  refine ⟨by simp at h1 ⊢; omega, fun o ho => h2 o (by simp at ho ⊢; rcases ho with h | h | h | h <;> simp [h]), ?_⟩
  rw [List.pairwise_append] at h3 ⊢
  obtain ⟨p1, p2, p3⟩ := h3
  rw [List.pairwise_cons, List.pairwise_cons] at p2
  refine ⟨p1, ?_, fun a ha b hb => p3 a ha b (by simp at hb ⊢; rcases hb with h | h | h <;> simp [h])⟩
  rw [List.pairwise_cons, List.pairwise_cons]
  refine ⟨fun b hb => ?_, fun b hb => p2.1 b (by simp [hb]), p2.2.2⟩
  rcases List.mem_cons.1 hb with rfl | hb
  · exact fun h => hne h.1.symm
  · exact p2.2.1 b hb
theorem same_swap (hne : x.tx ≠ y.tx) : sameB (A ++ x :: y :: B) (A ++ y :: x :: B) = true := by
  unfold sameB
  rw [List.all_eq_true]
  intro t _
  rw [eqLB_iff]
  exact fil_swap hne t
/-! ### the order of conflicts -/
theorem num_take (l : List O3) (t : Int) (k : Nat) : numTo l t k = ((l.take k).filter fun o => o.tx == t).length := rfl
def sg (k i : Nat) : Nat := if i = k then k + 1 else if i = k + 1 then k else i
theorem sg_lt {k i n : Nat} (hk : k + 1 < n) (hi : i < n) : sg k i < n := by unfold sg; split <;> (try split) <;> omega
theorem get_sg {k : Nat} (hA : A.length = k) {i : Nat} (hi : i < (A ++ x :: y :: B).length) (hj : sg k i < (A ++ y :: x :: B).length) : (A ++ y :: x :: B)[sg k i] = (A ++ x :: y :: B)[i] := by
  subst hA
  unfold sg at hj ⊢
  by_cases h1 : i = A.length
  · subst h1; simp
  · by_cases h2 : i = A.length + 1
    · subst h2; simp
    · simp only [h1, h2, if_false]
      by_cases h3 : i < A.length
      · rw [List.getElem_append_left h3, List.getElem_append_left h3]
      · rw [List.getElem_append_right (by omega), List.getElem_append_right (by omega)]
        obtain ⟨j, hj⟩ : ∃ j, i - A.length = j + 2 := ⟨i - A.length - 2, by omega⟩
        simp only [hj, List.getElem_cons_succ]
theorem num_sg (hne : x.tx ≠ y.tx) {k : Nat} (hA : A.length = k) {i : Nat} (hi : i < (A ++ x :: y :: B).length) : numTo (A ++ y :: x :: B) ((A ++ x :: y :: B)[i]).tx (sg k i) = numTo (A ++ x :: y :: B) ((A ++ x :: y :: B)[i]).tx i := by
  subst hA
  unfold sg
  by_cases h1 : i = A.length
  · subst h1
    rw [if_pos rfl]
    have hyx : ¬ y.tx = x.tx := fun e => hne e.symm
    simp [num_take, List.take_append, List.filter_append, hyx]
    rw [List.take_of_length_le (by omega)]
  · by_cases h2 : i = A.length + 1
    · subst h2
      rw [if_neg (by omega), if_pos rfl]
      simp [num_take, List.take_append, List.filter_append, hne]
      rw [List.take_of_length_le (l := A) (by omega)]
    · rw [if_neg h1, if_neg h2]
      by_cases h3 : i < A.length
      · simp only [num_take]
        rw [List.take_append_of_le_length (by omega), List.take_append_of_le_length (by omega)]
      · obtain ⟨j, hj⟩ : ∃ j, i = A.length + (j + 2) := ⟨i - A.length - 2, by omega⟩
        simp only [num_take]
        generalize ((A ++ x :: y :: B)[i]).tx = t
        rw [hj, List.take_length_add_append, List.take_length_add_append]
        simp only [List.take_succ_cons]
        rw [fil_swap hne]
theorem pl_sg (hne : x.tx ≠ y.tx) {k : Nat} (hA : A.length = k) {i : Nat} (hi : i < (A ++ x :: y :: B).length) : plI (A ++ x :: y :: B) (A ++ y :: x :: B) i = sg k i := by
  have hlen : (A ++ y :: x :: B).length = (A ++ x :: y :: B).length := by simp
  have hj : sg k i < (A ++ y :: x :: B).length := by rw [hlen]; exact sg_lt (by simp; omega) hi
  have e1 : txI (A ++ y :: x :: B) (sg k i) = txI (A ++ x :: y :: B) i := by rw [txI_eq hj, txI_eq hi, get_sg hA hi hj]
  have e2 : nmI (A ++ y :: x :: B) (sg k i) = nmI (A ++ x :: y :: B) i := by
    unfold nmI; rw [e1, txI_eq hi]; exact num_sg hne hA hi
  unfold plI
  rw [← e1, ← e2]
  exact place_of hj
theorem sm_swap (hne : x.tx ≠ y.tx) (hc : conflB x y = false) : smB (A ++ x :: y :: B) (A ++ y :: x :: B) = true := by
  refine tt_true fun i k hik hk => ?_
  unfold violS
  rw [pl_sg hne rfl hk, pl_sg hne rfl (by omega : i < _)]
  by_cases h : i = A.length ∧ k = A.length + 1
  · obtain ⟨rfl, rfl⟩ := h
    rw [cfAt_eq (by simp) (by simp)]
    simp [hc]
  · have : ¬ ((sg A.length k : Nat) : Int) < (sg A.length i : Nat) := by
      have hsg : ∀ j, (j = A.length ∧ sg A.length j = A.length + 1) ∨ (j = A.length + 1 ∧ sg A.length j = A.length) ∨ (j ≠ A.length ∧ j ≠ A.length + 1 ∧ sg A.length j = j) := by
        intro j
        unfold sg
        by_cases h1 : j = A.length
        · exact .inl ⟨h1, by rw [if_pos h1]⟩
        · by_cases h2 : j = A.length + 1
          · exact .inr (.inl ⟨h2, by rw [if_neg h1, if_pos h2]⟩)
          · exact .inr (.inr ⟨h1, h2, by rw [if_neg h1, if_neg h2]⟩)
      have a1 := hsg i
      have a2 := hsg k
      omega
    simp [this]
/-! ### the graph -/
def eL : List O3 → Nat → Nat → Bool
  | [], _, _ => false
  | x :: xs, t, u => (x.tx.toNat == t && xs.any fun y => conflB x y && y.tx.toNat == u) || eL xs t u
theorem eL_swap (hc : conflB x y = false) (t u : Nat) : ∀ A : List O3, eL (A ++ x :: y :: B) t u = eL (A ++ y :: x :: B) t u
  | [] => by
    have hc' : conflB y x = false := by rw [confl_comm]; exact hc
    simp only [List.nil_append, eL, List.any_cons, hc, hc', Bool.false_and, Bool.false_or]
    cases (x.tx.toNat == t && B.any fun y => conflB x y && y.tx.toNat == u) <;> cases (y.tx.toNat == t && B.any fun z => conflB y z && z.tx.toNat == u) <;> simp
  | a :: A => by
    simp only [List.cons_append, eL, eL_swap hc t u A]
    congr 2
    simp only [List.any_append, List.any_cons]
    cases (conflB a x && x.tx.toNat == u) <;> cases (conflB a y && y.tx.toNat == u) <;> simp
theorem eL_iff (l : List O3) (t u : Nat) : eL l t u = true ↔ ∃ i k, ∃ (hi : i < l.length) (hk : k < l.length), i < k ∧ conflB l[i] l[k] = true ∧ l[i].tx.toNat = t ∧ l[k].tx.toNat = u := by
  induction l with
  | nil => simp [eL]
  | cons a l ih =>
    simp only [eL, Bool.or_eq_true, Bool.and_eq_true, beq_iff_eq, List.any_eq_true, ih]
    constructor
    · rintro (⟨h1, b, hb, h2, h3⟩ | ⟨i, k, hi, hk, h⟩)
      · obtain ⟨k, hk, rfl⟩ := List.getElem_of_mem hb
        exact ⟨0, k + 1, by simp, by simp; omega, by omega, by simpa using h2, by simpa using h1, by simpa using h3⟩
      · exact ⟨i + 1, k + 1, by simp; omega, by simp; omega, by omega, by simpa using h.2⟩
    · rintro ⟨i, k, hi, hk, hik, h1, h2, h3⟩
      cases k with
      | zero => omega
      | succ k =>
        have hk' : k < l.length := by simpa using hk
        cases i with
        | zero => exact .inl ⟨by simpa using h2, l[k], List.getElem_mem hk', by simpa using h1, by simpa using h3⟩
        | succ i => exact .inr ⟨i, k, by simpa using hi, hk', by omega, by simpa using h1, by simpa using h2, by simpa using h3⟩
theorem eIn_iff (l : List O3) (i : Nat) (f : Nat → Nat → Bool) (t u : Nat) : ∀ n, eIn l i f n t u = true ↔ (f t u = true ∨ ∃ k, k < n ∧ i < k ∧ cfAt l i k = true ∧ txN l i = t ∧ txN l k = u)
  | 0 => by simp [eIn]
  | n + 1 => by
    unfold eIn
    split
    · rename_i h
      simp only [Bool.and_eq_true, decide_eq_true_eq] at h
      simp only [addE, Bool.or_eq_true, Bool.and_eq_true, beq_iff_eq, eIn_iff l i f t u n]
      constructor
      · rintro ((h1 | ⟨k, h1, h2⟩) | ⟨h1, h2⟩)
        · exact .inl h1
        · exact .inr ⟨k, by omega, h2⟩
        · exact .inr ⟨n, by omega, h.1, h.2, h1.symm, h2.symm⟩
      · rintro (h1 | ⟨k, h1, h2, h3, h4, h5⟩)
        · exact .inl (.inl h1)
        · by_cases e : k = n
          · subst e; exact .inr ⟨h4.symm, h5.symm⟩
          · exact .inl (.inr ⟨k, by omega, h2, h3, h4, h5⟩)
    · rename_i h
      rw [eIn_iff l i f t u n]
      constructor
      · rintro (h1 | ⟨k, h1, h2⟩)
        · exact .inl h1
        · exact .inr ⟨k, by omega, h2⟩
      · rintro (h1 | ⟨k, h1, h2, h3, h4⟩)
        · exact .inl h1
        · by_cases e : k = n
          · subst e; exact absurd (by simp [h2, h3]) h
          · exact .inr ⟨k, by omega, h2, h3, h4⟩
theorem eTo_iff (l : List O3) (t u : Nat) : ∀ n, eTo l n t u = true ↔ ∃ i k, i < n ∧ k < l.length ∧ i < k ∧ cfAt l i k = true ∧ txN l i = t ∧ txN l k = u
  | 0 => by simp [eTo]
  | n + 1 => by
    rw [eTo, eIn_iff, eTo_iff l t u n]
    constructor
    · rintro (⟨i, k, h1, h⟩ | ⟨k, h1, h2⟩)
      · exact ⟨i, k, by omega, h⟩
      · exact ⟨n, k, by omega, h1, h2⟩
    · rintro ⟨i, k, h1, h2, h3⟩
      by_cases e : i = n
      · subst e; exact .inr ⟨k, h2, h3⟩
      · exact .inl ⟨i, k, by omega, h2, h3⟩
theorem eTo_eL (l : List O3) (t u : Nat) : eTo l l.length t u = eL l t u := by
  rw [Bool.eq_iff_iff, eTo_iff, eL_iff]
  constructor
  · rintro ⟨i, k, hi, hk, hik, h1, h2, h3⟩
    rw [cfAt_eq hi hk] at h1
    simp only [txN, dif_pos hi, dif_pos hk] at h2 h3
    exact ⟨i, k, hi, hk, hik, h1, h2, h3⟩
  · rintro ⟨i, k, hi, hk, hik, h1, h2, h3⟩
    exact ⟨i, k, hi, hk, hik, by rw [cfAt_eq hi hk]; exact h1, by simp only [txN, dif_pos hi]; exact h2, by simp only [txN, dif_pos hk]; exact h3⟩
theorem gra_swap (hne : x.tx ≠ y.tx) (hc : conflB x y = false) : graL (comL (A ++ x :: y :: B)) = graL (comL (A ++ y :: x :: B)) := by
  have hp : ∀ o : O3, (endL (A ++ x :: y :: B) o.tx == 2) = (endL (A ++ y :: x :: B) o.tx == 2) := fun o => by rw [endL_swap hne]
  unfold graL
  refine mk4_same fun t u _ _ => ?_
  rw [eTo_eL, eTo_eL]
  unfold comL
  simp only [hp]
  generalize (fun o : O3 => endL (A ++ y :: x :: B) o.tx == 2) = p
  simp only [List.filter_append]
  cases h1 : p x <;> cases h2 : p y <;> simp only [List.filter_cons, h1, h2, if_true, if_false, Bool.false_eq_true]
  exact eL_swap hc t u _
end
/-- All that the law asks of an exchange. -/
theorem swap_all {l : List O3} {i : Int} (h : SwapP l i) : SwapP (swapL l i.toNat) i ∧ swapL (swapL l i.toNat) i.toNat = l ∧ isV l (swapL l i.toNat) = true ∧ graV (swapL l i.toNat) = graV l := by
  obtain ⟨hv, k, rfl, hk, hne, hc⟩ := h
  simp only [Int.toNat_natCast]
  obtain ⟨e1, e2⟩ := swap_form hk
  generalize hx : l[k] = x at e1 e2 hne hc
  generalize hy : l[k + 1] = y at e1 e2 hne hc
  have hlen : (l.take k).length = k := by rw [List.length_take]; omega
  generalize hA : l.take k = A at e1 e2 hlen
  generalize hB : l.drop (k + 2) = B at e1 e2
  rw [e2]
  have hv2 : ValidP (A ++ y :: x :: B) := valid_swap hne (by rw [← e1]; exact hv)
  have hk2 : k + 1 < (A ++ y :: x :: B).length := by simp; omega
  have g1 : (A ++ y :: x :: B)[k] = y := by simp [← hlen]
  have g2 : (A ++ y :: x :: B)[k + 1] = x := by simp [← hlen]
  refine ⟨⟨hv2, k, rfl, hk2, by rw [g1, g2]; exact fun e => hne e.symm, by rw [g1, g2, confl_comm]; exact hc⟩, ?_, ?_, ?_⟩
  · obtain ⟨_, e3⟩ := swap_form hk2
    rw [e3, g1, g2, e1]
    have t1 : (A ++ y :: x :: B).take k = A := by rw [← hlen]; simp
    have t2 : (A ++ y :: x :: B).drop (k + 2) = B := by rw [← hlen]; simp
    rw [t1, t2]
  · unfold isV
    rw [tt_true hv, tt_true hv2, e1, same_swap hne, sm_swap hne hc]; rfl
  · unfold graV
    rw [tt_true hv, tt_true hv2, e1, gra_swap hne hc]
end Go.Proofs.Ytaflkbemecjcpaa
