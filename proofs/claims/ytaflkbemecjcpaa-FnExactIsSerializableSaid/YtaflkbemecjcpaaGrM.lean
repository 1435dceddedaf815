/- The graph of conflicts: the plain side. -/
import Derived.Test.YtaflkbemecjcpaaCfs
import Derived.Test.YtaflkbemecjcpaaPow
namespace Go.Proofs.Ytaflkbemecjcpaa
set_option linter.unusedSimpArgs false
set_option linter.unusedVariables false
open Go.RowKit

def addE (f : Nat → Nat → Bool) (t u : Nat) : Nat → Nat → Bool := fun a b => f a b || (a == t && b == u)
def txN (l : List O3) (i : Nat) : Nat := if h : i < l.length then l[i].tx.toNat else 0
theorem txN_eq {l : List O3} {i : Nat} (h : i < l.length) {n : Nat} (hn : l[i].tx = n) : txN l i = n := by unfold txN; rw [dif_pos h, hn]; simp
def eIn (l : List O3) (i : Nat) (f : Nat → Nat → Bool) : Nat → Nat → Nat → Bool
  | 0 => f
  | k + 1 => if (decide (i < k) && cfAt l i k) = true then addE (eIn l i f k) (txN l i) (txN l k) else eIn l i f k
theorem eIn_yes {l : List O3} {i k : Nat} {f : Nat → Nat → Bool} (hik : i < k) (h : cfAt l i k = true) : eIn l i f (k + 1) = addE (eIn l i f k) (txN l i) (txN l k) := by
  rw [eIn, if_pos (by simp [hik, h])]
theorem eIn_no {l : List O3} {i k : Nat} {f : Nat → Nat → Bool} (h : cfAt l i k = false) : eIn l i f (k + 1) = eIn l i f k := by
  rw [eIn, if_neg (by simp [h])]
theorem eIn_start (l : List O3) (i : Nat) (f : Nat → Nat → Bool) : ∀ k, k ≤ i + 1 → eIn l i f k = f
  | 0, _ => rfl
  | k + 1, hk => by rw [eIn, if_neg (by simp; omega)]; exact eIn_start l i f k (by omega)
def eTo (l : List O3) : Nat → Nat → Nat → Bool
  | 0 => fun _ _ => false
  | i + 1 => eIn l i (eTo l i) l.length
def msk (g : Nat → Bool) : Int := cond (g 0) 1 0 + cond (g 1) 2 0 + cond (g 2) 4 0 + cond (g 3) 8 0
def mk4 (f : Nat → Nat → Bool) : List Int := [msk (f 0), msk (f 1), msk (f 2), msk (f 3)]
theorem mk4_len (f : Nat → Nat → Bool) : (mk4 f).length = 4 := rfl
theorem mk4_none : mk4 (fun _ _ => false) = [0, 0, 0, 0] := rfl
theorem msk_or (g : Nat → Bool) (u : Nat) (hu : u ≤ 3) : bits .or .i64 (msk g) (pwN u) = msk fun b => g b || (b == u) := by
  simp only [msk]
  generalize g 0 = a0
  generalize g 1 = a1
  generalize g 2 = a2
  generalize g 3 = a3
  rcases (show u = 0 ∨ u = 1 ∨ u = 2 ∨ u = 3 by omega) with rfl | rfl | rfl | rfl <;> cases a0 <;> cases a1 <;> cases a2 <;> cases a3 <;> decide
theorem msk_same (g : Nat → Bool) {f : Nat → Bool} (h : ∀ b, b ≤ 3 → f b = g b) : msk f = msk g := by
  unfold msk; rw [h 0 (by omega), h 1 (by omega), h 2 (by omega), h 3 (by omega)]
theorem mk4_same {f g : Nat → Nat → Bool} (h : ∀ a b, a ≤ 3 → b ≤ 3 → f a b = g a b) : mk4 f = mk4 g := by
  unfold mk4
  rw [msk_same (g 0) (fun b hb => h 0 b (by omega) hb), msk_same (g 1) (fun b hb => h 1 b (by omega) hb), msk_same (g 2) (fun b hb => h 2 b (by omega) hb), msk_same (g 3) (fun b hb => h 3 b (by omega) hb)]
theorem mk4_at (f : Nat → Nat → Bool) (t : Nat) (ht : t < (mk4 f).length) : (mk4 f)[t] = msk (f t) := by
  have : t < 4 := ht
  rcases (show t = 0 ∨ t = 1 ∨ t = 2 ∨ t = 3 by omega) with rfl | rfl | rfl | rfl <;> rfl
theorem mk4_set (f : Nat → Nat → Bool) {t u : Nat} (ht : t < (mk4 f).length) (hu : u ≤ 3) : (mk4 f).set t (bits .or .i64 (mk4 f)[t] (pwN u)) = mk4 (addE f t u) := by
  rw [mk4_at, msk_or _ _ hu]
  have h4 : t < 4 := ht
  have hs : ∀ a, a ≠ t → msk (f a) = msk (addE f t u a) := fun a ha => msk_same _ fun b _ => by simp [addE, ha]
  have hy : (msk fun b => f t b || b == u) = msk (addE f t u t) := msk_same _ fun b _ => by simp [addE]
  rw [hy]
  rcases (show t = 0 ∨ t = 1 ∨ t = 2 ∨ t = 3 by omega) with rfl | rfl | rfl | rfl <;> simp only [mk4, List.set_cons_zero, List.set_cons_succ] <;> simp only [List.cons.injEq, true_and, and_true] <;> refine ⟨?_, ?_⟩ <;> (try refine ⟨?_, ?_⟩) <;> (try refine ⟨?_, ?_⟩) <;> (try rfl) <;> exact hs _ (by omega)
def graL (l : List O3) : List Int := mk4 (eTo l l.length)
noncomputable def graV (l : List O3) : List Int := if tt (ValidP l) = true then graL (comL l) else []
theorem graV_len (l : List O3) (hl : l.length ≤ 1048576) : (graV l).length ≤ 1048576 := by
  unfold graV; split
  · show 4 ≤ 1048576; omega
  · simp
theorem eIn_dom {l : List O3} {i : Nat} {f : Nat → Nat → Bool} (hf : ∀ a b, f a b = true → a ≤ 3 ∧ b ≤ 3) (hl : ∀ k, txN l k ≤ 3) : ∀ k a b, eIn l i f k a b = true → a ≤ 3 ∧ b ≤ 3
  | 0, a, b, h => hf a b h
  | k + 1, a, b, h => by
    unfold eIn at h
    split at h
    · simp only [addE, Bool.or_eq_true, Bool.and_eq_true, beq_iff_eq] at h
      rcases h with h | ⟨rfl, rfl⟩
      · exact eIn_dom hf hl k a b h
      · exact ⟨hl _, hl _⟩
    · exact eIn_dom hf hl k a b h
theorem eTo_dom {l : List O3} (hl : ∀ k, txN l k ≤ 3) : ∀ i a b, eTo l i a b = true → a ≤ 3 ∧ b ≤ 3
  | 0, a, b, h => by simp [eTo] at h
  | i + 1, a, b, h => eIn_dom (eTo_dom hl i) hl _ a b h
end Go.Proofs.Ytaflkbemecjcpaa
