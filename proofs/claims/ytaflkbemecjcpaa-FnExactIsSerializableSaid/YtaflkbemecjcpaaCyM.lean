/- The first shortest circle: lemmas for the walks. -/
import Derived.Test.YtaflkbemecjcpaaCyC
namespace Go.Proofs.Ytaflkbemecjcpaa
set_option linter.unusedSimpArgs false
set_option linter.unusedVariables false
def ci (p : List Nat) : List Int := p.map fun n : Nat => (n : Int)
theorem ci_len (p : List Nat) : (ci p).length = p.length := by simp [ci]
theorem ci_app (p : List Nat) (t : Nat) : ci (p ++ [t]) = ci p ++ [(t : Int)] := by simp [ci]
theorem ci_at {p : List Nat} {k : Nat} (h : k < (ci p).length) : (ci p)[k] = ((p[k]'(by rw [← ci_len p]; exact h) : Nat) : Int) := by simp [ci]
theorem hasN_iff (p : List Nat) (n : Nat) : hasN p n = true ↔ n ∈ p := by
  induction p with
  | nil => simp [hasN]
  | cons x r ih => simp only [hasN, Bool.or_eq_true, Nat.beq_eq, ih, List.mem_cons]; exact ⟨fun h => h.imp_left Eq.symm, fun h => h.imp_left Eq.symm⟩
theorem ci_has (p : List Nat) (n : Nat) : (ci p).contains (n : Int) = hasN p n := by
  rw [Bool.eq_iff_iff, hasN_iff, List.contains_iff_mem]
  unfold ci
  rw [List.mem_map]
  exact ⟨fun ⟨x, hx, e⟩ => by have : x = n := by omega
                              exact this ▸ hx, fun h => ⟨n, h, rfl⟩⟩
theorem headN_at {p : List Nat} (h : 0 < p.length) : p[0] = headN p := by
  cases p with
  | nil => simp at h
  | cons x r => rfl
theorem lastN_app : ∀ (p : List Nat) (t : Nat), lastN (p ++ [t]) = t
  | [], t => rfl
  | [x], t => rfl
  | x :: y :: r, t => by
    show lastN (y :: (r ++ [t])) = t
    exact lastN_app (y :: r) t
theorem lastN_at : ∀ {p : List Nat} (h : 0 < p.length), p[p.length - 1]'(by omega) = lastN p
  | [x], _ => rfl
  | x :: y :: r, _ => by
    have ih := lastN_at (p := y :: r) (by simp)
    simpa [lastN] using ih
theorem headN_app {p : List Nat} (h : 0 < p.length) (t : Nat) : headN (p ++ [t]) = headN p := by
  cases p with
  | nil => simp at h
  | cons x r => rfl
theorem loopU_app (g : List Nat → Nat → List Nat) : ∀ (l : List Nat) (u : Nat) (b : List Nat), loopU g (l ++ [u]) b = g (loopU g l b) u
  | [], _, _ => rfl
  | x :: l, u, b => loopU_app g l u (g b x)
theorem loopU_next (g : List Nat → Nat → List Nat) (k : Nat) (b : List Nat) : loopU g (List.range (k + 1)) b = g (loopU g (List.range k) b) k := by
  rw [List.range_succ, loopU_app]
theorem firstU_nil {g : Nat → List Nat} {x : Nat} (l : List Nat) (e : g x = []) : firstU g (x :: l) = firstU g l := by rw [firstU, e]
theorem firstU_hit {g : Nat → List Nat} {x : Nat} (l : List Nat) (e : g x ≠ []) : firstU g (x :: l) = g x := by
  rw [firstU]
  cases h : g x with
  | nil => exact absurd h e
  | cons y r => rfl
theorem firstU_app (g : Nat → List Nat) : ∀ (l m : List Nat), firstU g l = [] → firstU g (l ++ m) = firstU g m
  | [], _, _ => rfl
  | x :: l, m, h => by
    by_cases e : g x = []
    · rw [firstU_nil _ e] at h
      rw [List.cons_append, firstU_nil _ e, firstU_app g l m h]
    · rw [firstU_hit _ e] at h
      exact absurd h e
theorem firstU_stay (g : Nat → List Nat) : ∀ (l m : List Nat), firstU g l ≠ [] → firstU g (l ++ m) = firstU g l
  | [], _, h => absurd rfl h
  | x :: l, m, h => by
    by_cases e : g x = []
    · rw [firstU_nil _ e] at h ⊢
      rw [List.cons_append, firstU_nil _ e, firstU_stay g l m h]
    · rw [List.cons_append, firstU_hit _ e, firstU_hit _ e]
theorem firstU_one (g : Nat → List Nat) (u : Nat) : firstU g [u] = g u := by
  unfold firstU
  cases e : g u <;> rfl
theorem firstU_next {g : Nat → List Nat} {k : Nat} (h : firstU g (List.range k) = []) : firstU g (List.range (k + 1)) = g k := by
  rw [List.range_succ, firstU_app g _ _ h, firstU_one]
theorem firstU_found {g : Nat → List Nat} {k n : Nat} (h : firstU g (List.range k) = []) (hk : g k ≠ []) (hn : k < n) : firstU g (List.range n) = g k := by
  obtain ⟨m, rfl⟩ : ∃ m, n = (k + 1) + m := ⟨n - (k + 1), by omega⟩
  have e : List.range (k + 1 + m) = List.range (k + 1) ++ (List.range m).map (k + 1 + ·) := List.range_add
  rw [e, firstU_stay g _ _ (by rw [firstU_next h]; exact hk), firstU_next h]
theorem cycF_len (f : Nat → Nat → Bool) : ∀ (k : Nat) (head : List Nat), (cycF f k head).length ≤ head.length + k
  | 0, head => by unfold cycF; split <;> simp
  | k + 1, head => by
    unfold cycF
    have : ∀ (g : Nat → List Nat) (l : List Nat) (n : Nat), (∀ u, (g u).length ≤ n) → (firstU g l).length ≤ n := by
      intro g l n hg
      induction l with
      | nil => simp [firstU]
      | cons x r ih =>
        by_cases e : g x = []
        · rw [firstU_nil _ e]; exact ih
        · rw [firstU_hit _ e]; exact hg x
    refine this _ _ _ fun u => ?_
    split
    · have := cycF_len f k (head ++ [u]); simp at this; omega
    · simp
end Go.Proofs.Ytaflkbemecjcpaa
