/- What the drawn laws ask, in plain words: schedules cut and filtered, ends, what is committed. No program in sight. -/
import Derived.Test.YtaflkbemecjcpaaFilt
import Derived.Test.YtaflkbemecjcpaaReads
namespace Go.Proofs.Ytaflkbemecjcpaa
set_option linter.unusedSimpArgs false
set_option linter.unusedVariables false

theorem valid_iff (l : List O3) : ValidP l ↔ l.length ≤ 16 ∧ (∀ o ∈ l, validB o = true) ∧ l.Pairwise (fun a b => ¬ (a.tx = b.tx ∧ endB a = true)) := by
  unfold ValidP OkAt
  rw [List.pairwise_iff_getElem]
  constructor
  · rintro ⟨h1, h2⟩
    refine ⟨h1, fun o ho => ?_, fun i j hi hj hij => ?_⟩
    · obtain ⟨k, hk, rfl⟩ := List.getElem_of_mem ho
      exact (h2 k hk).2.1
    · exact (h2 j hj).2.2 i hi hij
  · rintro ⟨h1, h2, h3⟩
    exact ⟨h1, fun k hk => ⟨hk, h2 _ (List.getElem_mem hk), fun j hj hjk => h3 j k hj hk hjk⟩⟩
theorem valid_sub {l l' : List O3} (h : ValidP l) (hs : l'.Sublist l) : ValidP l' := by
  rw [valid_iff] at h ⊢
  exact ⟨Nat.le_trans hs.length_le h.1, fun o ho => h.2.1 o (hs.subset ho), h.2.2.sublist hs⟩
theorem valid_take {l : List O3} (h : ValidP l) (n : Nat) : ValidP (l.take n) := valid_sub h (List.take_sublist n l)
theorem valid_filter {l : List O3} (h : ValidP l) (p : O3 → Bool) : ValidP (l.filter p) := valid_sub h List.filter_sublist
theorem valid_all {l : List O3} (h : ValidP l) {k : Nat} (hk : k < l.length) : validB l[k] = true := (h.2 k hk).2.1
theorem validB_tx {o : O3} (h : validB o = true) : 0 ≤ o.tx ∧ o.tx ≤ 3 := by
  simp [validB, inR] at h; exact h.1
theorem validB_end {o : O3} (h : validB o = true) : endB o = decide (2 ≤ o.kind) := by
  simp only [validB, accB, endB, inR, Bool.and_eq_true, Bool.or_eq_true, beq_iff_eq, decide_eq_true_eq] at h
  rw [Bool.eq_iff_iff]
  simp only [endB, Bool.or_eq_true, beq_iff_eq, decide_eq_true_eq]
  omega

/-! ### Ends are last -/
theorem endL_ops (l : List O3) (t : Int) : endL l t = match (l.filter fun o => o.tx == t).find? endB with | some o => o.kind | none => -1 := by
  unfold endL
  rw [List.find?_filter]
  have : (fun o : O3 => o.tx == t && endB o) = fun a => decide ((a.tx == t) = true ∧ endB a = true) := by
    funext o
    rw [Bool.eq_iff_iff]; simp
  rw [this]
  generalize List.find? _ l = z
  cases z <;> rfl
theorem end_last {l : List O3} (h : ValidP l) (t : Int) {n : Nat} (hn : (l.filter fun o => o.tx == t).length = n + 1) : endL l t = if 2 ≤ ((l.filter fun o => o.tx == t)[n]'(by omega)).kind then ((l.filter fun o => o.tx == t)[n]'(by omega)).kind else -1 := by
  rw [endL_ops]
  have hv := valid_filter h (fun o => o.tx == t)
  have hx := validB_end (valid_all hv (k := n) (by omega))
  have hq : ∀ j (hj : j < (l.filter fun o => o.tx == t).length), j < n → endB (l.filter fun o => o.tx == t)[j] = false := by
    intro j hj hjn
    have h1 := (hv.2 n (by omega)).2.2 j hj hjn
    have h2 : ∀ k (hk : k < (l.filter fun o => o.tx == t).length), (l.filter fun o => o.tx == t)[k].tx = t := fun k hk => by
      have := (List.mem_filter.1 (List.getElem_mem hk)).2; simpa using this
    rw [h2 j hj, h2 n (by omega)] at h1
    simpa using h1
  by_cases hk : 2 ≤ ((l.filter fun o => o.tx == t)[n]'(by omega)).kind
  · rw [if_pos hk, find_step (by omega) (fun j hj hjn => hq j hj hjn) (by rw [hx]; simpa using hk)]
  · rw [if_neg hk, find_none (fun j hj => by
      by_cases e : j = n
      · subst e; rw [hx]; simpa using hk
      · exact hq j hj (by omega))]
theorem end_none {l : List O3} (t : Int) (hn : (l.filter fun o => o.tx == t) = []) : endL l t = -1 := by rw [endL_ops, hn]; rfl

/-! ### What is committed is so once -/
theorem find_congr {α : Type} {p q : α → Bool} {l : List α} (h : ∀ x ∈ l, p x = q x) : l.find? p = l.find? q := by
  induction l with
  | nil => rfl
  | cons a l ih =>
    simp only [List.find?_cons]
    rw [h a (List.mem_cons_self), ih (fun x hx => h x (List.mem_cons_of_mem _ hx))]
theorem com_end {l : List O3} {t : Int} (h : endL l t = 2) : endL (comL l) t = 2 := by
  have : endL (comL l) t = endL l t := by
    unfold endL comL
    rw [List.find?_filter]
    rw [find_congr (q := fun o => o.tx == t && endB o)]
    intro o _
    by_cases e : o.tx = t
    · subst e; simp [h]
    · simp [e]
  rw [this, h]
theorem com_mem {l : List O3} {o : O3} (h : o ∈ comL l) : endL l o.tx = 2 := by
  have := (List.mem_filter.1 h).2; simpa using this
theorem com_com (l : List O3) : comL (comL l) = comL l := by
  have : comL (comL l) = (comL l).filter fun o => endL (comL l) o.tx == 2 := rfl
  rw [this, List.filter_eq_self]
  intro o ho
  rw [com_end (com_mem ho)]; rfl
theorem com_valid {l : List O3} (h : ValidP l) : ValidP (comL l) := valid_filter h _

/-! ### Transactions have operations -/
def opsN (l : List O3) (t : Int) : Nat := (l.filter fun o => o.tx == t).length
theorem cnt_split (l : List O3) (k : Nat) : (l.filter fun o => decide (0 ≤ o.tx ∧ o.tx < (k : Int) + 1)).length = (l.filter fun o => decide (0 ≤ o.tx ∧ o.tx < (k : Int))).length + opsN l k := by
  unfold opsN
  induction l with
  | nil => rfl
  | cons o l ih =>
    simp only [List.filter_cons]
    by_cases h1 : o.tx = k
    · have e1 : decide (0 ≤ o.tx ∧ o.tx < (k : Int) + 1) = true := by simp; omega
      have e2 : decide (0 ≤ o.tx ∧ o.tx < (k : Int)) = false := by simp; omega
      have e3 : (o.tx == (k : Int)) = true := by simp [h1]
      rw [e1, e2, e3]; simp only [if_true, Bool.false_eq_true, if_false, List.length_cons]; omega
    · have e3 : (o.tx == (k : Int)) = false := by simp [h1]
      have e1 : decide (0 ≤ o.tx ∧ o.tx < (k : Int) + 1) = decide (0 ≤ o.tx ∧ o.tx < (k : Int)) := by
        rw [Bool.eq_iff_iff]; simp; omega
      rw [e1, e3]
      cases decide (0 ≤ o.tx ∧ o.tx < (k : Int)) <;> simp only [if_true, Bool.false_eq_true, if_false, List.length_cons] <;> omega
theorem hasTx_opsN (l : List O3) (t : Int) : hasTx l t = decide (0 < opsN l t) := by
  unfold hasTx opsN
  rw [Bool.eq_iff_iff, List.any_eq_true, decide_eq_true_eq, List.length_pos_iff]
  constructor
  · rintro ⟨o, ho, h⟩ he
    have : o ∈ l.filter fun o => o.tx == t := List.mem_filter.2 ⟨ho, h⟩
    rw [he] at this; simp at this
  · intro h
    obtain ⟨o, ho⟩ := List.exists_mem_of_ne_nil _ h
    have := List.mem_filter.1 ho
    exact ⟨o, this.1, this.2⟩
theorem txs_sumTo (l : List O3) : ∀ k : Nat, ((txsTo l k).map (opsN l)).sum = (l.filter fun o => decide (0 ≤ o.tx ∧ o.tx < (k : Int))).length := by
  intro k
  induction k with
  | zero =>
    have : (l.filter fun o => decide (0 ≤ o.tx ∧ o.tx < ((0 : Nat) : Int))) = [] := by
      rw [List.filter_eq_nil_iff]; intro o _; simp
    rw [this]; rfl
  | succ k ih =>
    have hs := cnt_split l k
    rw [show ((k + 1 : Nat) : Int) = (k : Int) + 1 by omega, hs]
    cases h : hasTx l k
    · rw [txsTo_no h, ih]
      rw [hasTx_opsN] at h
      simp at h
      omega
    · rw [txsTo_yes h, List.map_append, List.sum_append, ih]; simp
theorem txs_sum {l : List O3} (hv : ValidP l) : ((txsL l).map (opsN l)).sum = l.length := by
  unfold txsL
  rw [txs_sumTo]
  have : (l.filter fun o => decide (0 ≤ o.tx ∧ o.tx < ((4 : Nat) : Int))) = l := by
    rw [List.filter_eq_self]
    intro o ho
    have := validB_tx (((valid_iff l).1 hv).2.1 o ho)
    simp; omega
  rw [this]
theorem txs_mem {l : List O3} {t : Int} (h : t ∈ txsL l) : (0 ≤ t ∧ t ≤ 3) ∧ hasTx l t = true := by
  unfold txsL txsTo at h
  rw [List.mem_filter, List.mem_map] at h
  obtain ⟨⟨i, hi, rfl⟩, h2⟩ := h
  rw [List.mem_range] at hi
  exact ⟨by omega, h2⟩
theorem mem_txs {l : List O3} {t : Int} (h : 0 ≤ t ∧ t ≤ 3) (h2 : hasTx l t = true) : t ∈ txsL l := by
  unfold txsL txsTo
  rw [List.mem_filter, List.mem_map]
  exact ⟨⟨t.toNat, by rw [List.mem_range]; omega, by omega⟩, h2⟩
theorem txs_asc (l : List O3) : (txsL l).Pairwise (· < ·) := by
  unfold txsL txsTo
  refine List.Pairwise.filter _ ?_
  rw [List.pairwise_map]
  exact List.pairwise_lt_range.imp (fun {a b} h => by omega)
theorem txs_le4 (l : List O3) : (txsL l).length ≤ 4 := txsTo_le l 4

/-! ### Completed schedules end -/
def cpls (l : List O3) : List O3 := ((txsL l).filter fun t => endL l t == -1).map fun t => ⟨t, 2, 0⟩
def cplL (l : List O3) : List O3 := l ++ cpls l
theorem cpls_mem {l : List O3} {o : O3} (h : o ∈ cpls l) : (0 ≤ o.tx ∧ o.tx ≤ 3) ∧ endL l o.tx = -1 ∧ o.kind = 2 ∧ o.item = 0 := by
  unfold cpls at h
  rw [List.mem_map] at h
  obtain ⟨t, ht, rfl⟩ := h
  rw [List.mem_filter] at ht
  exact ⟨(txs_mem ht.1).1, by simpa using ht.2, rfl, rfl⟩
theorem cpl_valid {l : List O3} (hv : ValidP l) (hn : (cplL l).length ≤ 16) : ValidP (cplL l) := by
  rw [valid_iff] at hv ⊢
  refine ⟨hn, ?_, ?_⟩
  · intro o ho
    unfold cplL at ho
    rcases List.mem_append.1 ho with h | h
    · exact hv.2.1 o h
    · obtain ⟨h1, _, h3, h4⟩ := cpls_mem h
      simp [validB, inR, accB, endB, h1, h3, h4]
  · unfold cplL
    rw [List.pairwise_append]
    refine ⟨hv.2.2, ?_, ?_⟩
    · unfold cpls
      rw [List.pairwise_map]
      refine (List.Pairwise.filter _ (txs_asc l)).imp ?_
      intro a b h
      simp; omega
    · rintro a ha b hb ⟨h1, h2⟩
      have h3 := (cpls_mem hb).2.1
      have h4 : 0 ≤ endL l b.tx := endL_nonneg.2 ⟨a, ha, h1, h2⟩
      omega
theorem cpl_end {l : List O3} {t : Int} (h : t ∈ txsL (cplL l)) : 0 ≤ endL (cplL l) t := by
  rw [endL_nonneg]
  obtain ⟨h1, h2⟩ := txs_mem h
  rcases endL_val l t with h3 | h3
  · cases h4 : hasTx l t
    · unfold hasTx at h2
      rw [List.any_eq_true] at h2
      obtain ⟨o, ho, ht⟩ := h2
      simp at ht
      unfold cplL at ho
      rcases List.mem_append.1 ho with h5 | h5
      · have : hasTx l t = true := List.any_eq_true.2 ⟨o, h5, by simp [ht]⟩
        rw [h4] at this; cases this
      · exact ⟨o, List.mem_append_right _ h5, ht, by simp [endB, (cpls_mem h5).2.2.1]⟩
    · refine ⟨⟨t, 2, 0⟩, List.mem_append_right _ ?_, rfl, rfl⟩
      unfold cpls
      rw [List.mem_map]
      exact ⟨t, List.mem_filter.2 ⟨mem_txs h1 h4, by simp [h3]⟩, rfl⟩
  · obtain ⟨o, ho, h4, h5⟩ := endL_nonneg.1 (show 0 ≤ endL l t by omega)
    exact ⟨o, List.mem_append_left _ ho, h4, h5⟩
theorem cpl_cpl (l : List O3) : cplL (cplL l) = cplL l := by
  have h : cpls (cplL l) = [] := by
    unfold cpls
    rw [List.map_eq_nil_iff, List.filter_eq_nil_iff]
    intro t ht
    have := cpl_end ht
    simp; omega
  have : cplL (cplL l) = cplL l ++ cpls (cplL l) := rfl
  rw [this, h, List.append_nil]

/-! ### What is read was written -/
theorem srcAt_cases (g : O3 → Bool) (l : List O3) (k : Nat) : srcAt g l k = -1 ∨ ∃ j, ∃ h : j < l.length, j < k ∧ g l[j] = true ∧ srcAt g l k = l[j].tx := by
  induction k with
  | zero => exact .inl rfl
  | succ k ih =>
    by_cases hk : k < l.length
    · cases h : g l[k]
      · rw [srcAt_no hk h]
        rcases ih with h1 | ⟨j, hj, hjk, h2, h3⟩
        · exact .inl h1
        · exact .inr ⟨j, hj, by omega, h2, h3⟩
      · exact .inr ⟨k, hk, by omega, h, srcAt_yes hk h⟩
    · have : srcAt g l (k + 1) = srcAt g l k := by simp [srcAt, hk]
      rw [this]
      rcases ih with h1 | ⟨j, hj, hjk, h2, h3⟩
      · exact .inl h1
      · exact .inr ⟨j, hj, by omega, h2, h3⟩
theorem readsTo_get (F : Nat → Int) {l : List O3} {i : Nat} (hi : i < l.length) (h : (l[i].kind == 0) = true) : ∀ m, i < m → m ≤ l.length → (readsTo F l m)[(readsTo F l i).length]? = some (F i) := by
  intro m
  induction m with
  | zero => intro h; omega
  | succ m ih =>
    intro h1 h2
    have hm : m < l.length := by omega
    by_cases e : i = m
    · subst e
      rw [readsTo_yes hi h]; simp
    · have h3 := ih (by omega) (by omega)
      cases h4 : l[m].kind == 0
      · rw [readsTo_no hm h4]; exact h3
      · rw [readsTo_yes hm h4]
        rw [List.getElem?_append_left]
        · exact h3
        · exact (List.getElem?_eq_some_iff.1 h3).1
end Go.Proofs.Ytaflkbemecjcpaa
