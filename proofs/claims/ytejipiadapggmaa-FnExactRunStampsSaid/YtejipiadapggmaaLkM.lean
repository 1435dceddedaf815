/- A schedule with locks: the plain side. -/
import Derived.Test.YtejipiadapggmaaHeld
namespace Go.Proofs.Ytejipiadapggmaa
set_option linter.unusedSimpArgs false
set_option linter.unusedVariables false
open Go.RowKit

/-- The table of locks behind all steps. -/
def HF (out : List O3) : Int → Int → Int := fun t x => heldTo out t x out.length
theorem HF_app (out : List O3) (s : O3) : HF (out ++ [s]) = takeF (HF out) s.tx s.kind s.item := by
  have hk : out.length < (out ++ [s]).length := by simp
  have h1 := held_take hk
  have h2 : (out ++ [s])[out.length] = s := by simp
  rw [h2] at h1
  have h3 : (fun t x => heldTo (out ++ [s]) t x out.length) = HF out := by
    funext t x
    have := held_cut (l := out ++ [s]) (i := out.length) t x (by simp) out.length (Nat.le_refl _)
    rw [List.take_left] at this
    exact this.symm
  rw [h3] at h1
  rw [← h1]
  funext t x
  unfold HF
  rw [List.length_append]; rfl
def frIf (o : List O3) (t x : Int) : List O3 := if 0 ≤ HF o t x then o ++ [⟨t, 2, x⟩] else o
def frTo (out : List O3) (t : Int) : Nat → List O3
  | 0 => out
  | x + 1 => frIf (frTo out t x) t x
theorem fr_yes {out : List O3} {t : Int} {x : Nat} (h : 0 ≤ HF (frTo out t x) t x) : frTo out t (x + 1) = frTo out t x ++ [⟨t, 2, x⟩] := by rw [frTo, frIf, if_pos h]
theorem fr_no {out : List O3} {t : Int} {x : Nat} (h : ¬ 0 ≤ HF (frTo out t x) t x) : frTo out t (x + 1) = frTo out t x := by rw [frTo, frIf, if_neg h]
def lkMid (out : List O3) (o : O3) : List O3 := if HF out o.tx o.item < o.kind then out ++ [⟨o.tx, o.kind, o.item⟩] else out
theorem mid_yes {out : List O3} {o : O3} (h : HF out o.tx o.item < o.kind) : lkMid out o = out ++ [⟨o.tx, o.kind, o.item⟩] := by rw [lkMid, if_pos h]
theorem mid_no {out : List O3} {o : O3} (h : ¬ HF out o.tx o.item < o.kind) : lkMid out o = out := by rw [lkMid, if_neg h]
def lkStep (out : List O3) (o : O3) : List O3 := if endB o = true then frTo out o.tx 3 else lkMid out o ++ [⟨o.tx, 3 + o.kind, o.item⟩]
def lkTo (l : List O3) : Nat → List O3
  | 0 => []
  | k + 1 => if h : k < l.length then lkStep (lkTo l k) l[k] else lkTo l k
theorem lk_end {l : List O3} {k : Nat} (hk : k < l.length) (h : endB l[k] = true) : lkTo l (k + 1) = frTo (lkTo l k) l[k].tx 3 := by rw [lkTo, dif_pos hk, lkStep, if_pos h]
theorem lk_acc {l : List O3} {k : Nat} (hk : k < l.length) (h : endB l[k] = false) : lkTo l (k + 1) = lkMid (lkTo l k) l[k] ++ [⟨l[k].tx, 3 + l[k].kind, l[k].item⟩] := by rw [lkTo, dif_pos hk, lkStep, if_neg (by simp [h])]
theorem fr_le (out : List O3) (t : Int) (x : Nat) : (frTo out t x).length ≤ out.length + x := by
  induction x with
  | zero => simp [frTo]
  | succ x ih =>
    unfold frTo frIf
    split <;> (try rw [List.length_append]) <;> (try simp only [List.length_cons, List.length_nil]) <;> omega
theorem mid_le (out : List O3) (o : O3) : (lkMid out o).length ≤ out.length + 1 := by
  unfold lkMid
  split
  · simp
  · omega
theorem lk_le (l : List O3) (k : Nat) : (lkTo l k).length ≤ 3 * k := by
  induction k with
  | zero => simp [lkTo]
  | succ k ih =>
    unfold lkTo
    split
    · rename_i h
      unfold lkStep
      split
      · have := fr_le (lkTo l k) l[k].tx 3; omega
      · have := mid_le (lkTo l k) l[k]; rw [List.length_append]; simp only [List.length_cons, List.length_nil]; omega
    · omega
theorem all_app {out : List O3} {s : O3} (h : out.all stepB = true) (hs : stepB s = true) : (out ++ [s]).all stepB = true := by rw [List.all_append, h]; simp [hs]
theorem fr_all {out : List O3} {t : Int} (h : out.all stepB = true) (ht : 0 ≤ t ∧ t ≤ 3) (x : Nat) (hx : x ≤ 3) : (frTo out t x).all stepB = true := by
  induction x with
  | zero => exact h
  | succ x ih =>
    unfold frTo frIf
    split
    · exact all_app (ih (by omega)) (by simp [stepB, inR]; omega)
    · exact ih (by omega)
theorem valid_parts {o : O3} (h : validB o = true) : (0 ≤ o.tx ∧ o.tx ≤ 3) ∧ (0 ≤ o.item ∧ o.item ≤ 2) ∧ (endB o = false → 0 ≤ o.kind ∧ o.kind ≤ 1) := by
  have hk := validB_kind h
  simp only [validB, Bool.and_eq_true, Bool.or_eq_true, beq_iff_eq, inR, decide_eq_true_eq] at h
  obtain ⟨ht, h⟩ := h
  refine ⟨ht, by rcases h with h | h <;> omega, fun he => ?_⟩
  rw [he] at hk
  simp [accB] at hk
  omega
theorem lk_all {l : List O3} (hv : ∀ o ∈ l, validB o = true) (k : Nat) : (lkTo l k).all stepB = true := by
  induction k with
  | zero => rfl
  | succ k ih =>
    unfold lkTo
    split
    · rename_i h
      obtain ⟨h1, h2, h3⟩ := valid_parts (hv _ (List.getElem_mem h))
      unfold lkStep
      split
      · exact fr_all ih h1 3 (Nat.le_refl _)
      · rename_i he
        have h4 := h3 (by simpa using he)
        refine all_app ?_ (by simp [stepB, inR]; omega)
        unfold lkMid
        split
        · exact all_app ih (by simp [stepB, inR]; omega)
        · exact ih
    · exact ih
theorem HF_vals {out : List O3} (h : out.all stepB = true) (t x : Int) : HF out t x = -1 ∨ HF out t x = 0 ∨ HF out t x = 1 := held_vals out h t x _
noncomputable def lkOk (l : List O3) : Bool := tt (ValidP l) && decide (l.length ≤ 12)
noncomputable def lkV (l : List O3) : List O3 := if lkOk l = true then lkTo l l.length else []
theorem lkV_len (l : List O3) (hl : l.length ≤ 1048576) : (lkV l).length ≤ 1048576 := by
  unfold lkV
  split
  · rename_i h
    simp [lkOk] at h
    have := lk_le l l.length
    omega
  · simp
theorem info_S : (Try.prog.info? 49).map (fun i => (i.zero, i.size, i.bytes)) = some (some (.agg #[.int .i64 0, .int .i64 0, .int .i64 0]), 3, 24) := by kernel_rfl
end Go.Proofs.Ytejipiadapggmaa
