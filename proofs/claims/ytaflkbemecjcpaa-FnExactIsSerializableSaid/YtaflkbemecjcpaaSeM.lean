/- IsSerializable: the plain side. There is a permutation that passes the program's check if and only if the reference lists an order. -/
import Derived.Test.YtaflkbemecjcpaaCyM
namespace Go.Proofs.Ytaflkbemecjcpaa
set_option linter.unusedSimpArgs false
set_option linter.unusedVariables false

/-- No edge leads back: each one has no edge to one that stands ahead of it. -/
def chkB (f : Nat → Nat → Bool) : List Nat → List Nat → Bool
  | _, [] => true
  | gone, t :: r => !(gone.any (f t)) && chkB f (gone ++ [t]) r
def sumU (g : Nat → Nat) : List Nat → Nat
  | [] => 0
  | u :: r => g u + sumU g r
/-- How many of the permutations that begin with p pass the check. -/
def perN (f : Nat → Nat → Bool) (L : List Nat) : Nat → List Nat → Nat
  | 0, p => if chkB f [] p then 1 else 0
  | k + 1, p => sumU (fun t => if hasN p t then 0 else perN f L k (p ++ [t])) L
/-- One may stand next: it is new, and each that leads to it is there. -/
def okT (f : Nat → Nat → Bool) (L : List Nat) (p : List Nat) (t : Nat) : Bool := !(hasN p t) && L.all fun u => !(f u t) || hasN p u
/-- How many orders begin with some. -/
def topN (f : Nat → Nat → Bool) (L : List Nat) : Nat → List Nat → Nat
  | 0, _ => 1
  | k + 1, p => sumU (fun t => if okT f L p t then topN f L k (p ++ [t]) else 0) L
theorem sumU_pos {g : Nat → Nat} : ∀ {l : List Nat}, 0 < sumU g l ↔ ∃ u ∈ l, 0 < g u
  | [] => by simp [sumU]
  | x :: l => by
    have ih := sumU_pos (g := g) (l := l)
    simp only [sumU, List.mem_cons, exists_eq_or_imp]
    rw [← ih]
    omega
theorem chkB_app (f : Nat → Nat → Bool) (t : Nat) : ∀ (p gone : List Nat), chkB f gone (p ++ [t]) = (chkB f gone p && !((gone ++ p).any (f t)))
  | [], gone => by simp [chkB]
  | x :: p, gone => by
    rw [List.cons_append, chkB, chkB, chkB_app f t p (gone ++ [x]), List.append_assoc, List.singleton_append, Bool.and_assoc]
theorem chk_app (f : Nat → Nat → Bool) (p : List Nat) (t : Nat) : chkB f [] (p ++ [t]) = (chkB f [] p && !(p.any (f t))) := by rw [chkB_app, List.nil_append]
theorem hasN_snoc (p : List Nat) (t u : Nat) : hasN (p ++ [t]) u = true ↔ hasN p u = true ∨ u = t := by
  rw [hasN_iff, hasN_iff, List.mem_append, List.mem_singleton]
section
variable {f : Nat → Nat → Bool} {L : List Nat}
/-- A check that has failed stays failed. -/
theorem per_bad : ∀ (k : Nat) (p : List Nat), chkB f [] p = false → perN f L k p = 0
  | 0, p, h => by simp [perN, h]
  | k + 1, p, h => by
    rw [perN]
    refine Nat.eq_zero_of_not_pos fun hp => ?_
    obtain ⟨t, _, ht⟩ := sumU_pos.1 hp
    split at ht
    · omega
    · rw [per_bad k (p ++ [t]) (by rw [chk_app, h]; rfl)] at ht
      omega
/-- Of L, how many are not on p. -/
def restN (L p : List Nat) : Nat := (L.filter fun u => !(hasN p u)).length
theorem rest_app {p : List Nat} {t : Nat} (hL : L.Nodup) (ht : t ∈ L) (h : hasN p t = false) : restN L (p ++ [t]) + 1 = restN L p := by
  unfold restN
  induction L with
  | nil => simp at ht
  | cons x L ih =>
    rw [List.nodup_cons] at hL
    by_cases hx : x = t
    · subst hx
      have h1 : ∀ u ∈ L, (!(hasN (p ++ [x]) u)) = (!(hasN p u)) := fun u hu => by
        have hne : u ≠ x := fun e => hL.1 (e ▸ hu)
        have e : hasN (p ++ [x]) u = hasN p u := by rw [Bool.eq_iff_iff, hasN_snoc]; simp [hne]
        rw [e]
      have h2 : hasN (p ++ [x]) x = true := by rw [hasN_snoc]; exact .inr rfl
      rw [List.filter_cons, List.filter_cons, h, h2, List.filter_congr h1]
      simp only [Bool.not_true, Bool.not_false, Bool.false_eq_true, if_false, if_true, List.length_cons]
    · have ht' : t ∈ L := by rcases List.mem_cons.1 ht with e | e; exact absurd e.symm hx; exact e
      have ih := ih hL.2 ht'
      have h2 : hasN (p ++ [t]) x = hasN p x := by
        rw [Bool.eq_iff_iff, hasN_snoc]; simp [hx]
      rw [List.filter_cons, List.filter_cons, h2]
      split <;> (try simp only [List.length_cons]) <;> omega
theorem rest_zero {p : List Nat} (h : restN L p = 0) : ∀ u ∈ L, hasN p u = true := fun u hu => by
  unfold restN at h
  rw [List.length_eq_zero_iff, List.filter_eq_nil_iff] at h
  have := h u hu
  simpa using this
/-- One stands there, and one that leads to it is still to come: all fail. -/
theorem per_late {t u : Nat} (hL : L.Nodup) (hu : u ∈ L) (hf : f u t = true) : ∀ (k : Nat) (p : List Nat), restN L p = k → t ∈ p → hasN p u = false → perN f L k p = 0
  | 0, p, hk, _, h => by
    have := rest_zero hk u hu
    rw [h] at this; cases this
  | k + 1, p, hk, ht, h => by
    rw [perN]
    refine Nat.eq_zero_of_not_pos fun hp => ?_
    obtain ⟨v, hv, hpos⟩ := sumU_pos.1 hp
    cases hh : hasN p v
    · rw [hh] at hpos
      simp only [Bool.false_eq_true, if_false] at hpos
      by_cases e : v = u
      · subst e
        rw [per_bad k _ (by
          rw [chk_app, Bool.and_eq_false_iff]
          right
          simp only [Bool.not_eq_false']
          rw [List.any_eq_true]
          exact ⟨t, ht, hf⟩)] at hpos
        omega
      · have hr := rest_app hL hv hh
        rw [per_late hL hu hf k (p ++ [v]) (by omega) (by simp [ht]) (by
          rw [Bool.eq_false_iff]
          intro e'
          rcases (hasN_snoc p v u).1 e' with e1 | e1
          · rw [h] at e1; cases e1
          · exact e e1.symm)] at hpos
        omega
    · rw [hh] at hpos; simp at hpos
/-- The two counts are both none or both some, from a head on that holds its forerunners. -/
theorem per_top (hL : L.Nodup) (hirr : ∀ a, f a a = false) : ∀ (k : Nat) (p : List Nat), restN L p = k → chkB f [] p = true → (∀ t ∈ p, t ∈ L) → (∀ t ∈ p, ∀ u ∈ L, f u t = true → hasN p u = true) → (0 < perN f L k p ↔ 0 < topN f L k p)
  | 0, p, _, hc, _, _ => by simp [perN, topN, hc]
  | k + 1, p, hk, hc, hs, hcl => by
    rw [perN, topN, sumU_pos, sumU_pos]
    have step : ∀ t ∈ L, (0 < (if hasN p t = true then 0 else perN f L k (p ++ [t])) ↔ 0 < (if okT f L p t = true then topN f L k (p ++ [t]) else 0)) := by
      intro t ht
      cases hh : hasN p t
      · have hr := rest_app hL ht hh
        simp only [Bool.false_eq_true, if_false]
        cases ho : okT f L p t
        · simp only [Bool.false_eq_true, if_false]
          have : ∃ u ∈ L, f u t = true ∧ hasN p u = false := by
            unfold okT at ho
            rw [hh, Bool.not_false, Bool.true_and] at ho
            rw [List.all_eq_false] at ho
            obtain ⟨u, hu, h⟩ := ho
            refine ⟨u, hu, ?_⟩
            simp at h
            exact h
          obtain ⟨u, hu, hfu, hpu⟩ := this
          have hut : u ≠ t := fun e => by subst e; rw [hirr] at hfu; cases hfu
          rw [per_late hL hu hfu k (p ++ [t]) (by omega) (by simp) (by
            rw [Bool.eq_false_iff]
            intro e'
            rcases (hasN_snoc p t u).1 e' with e1 | e1
            · rw [hpu] at e1; cases e1
            · exact hut e1)]
        · simp only [if_true]
          refine per_top hL hirr k (p ++ [t]) (by omega) ?_ ?_ ?_
          · rw [chk_app, hc, Bool.true_and, Bool.not_eq_true']
            rw [List.any_eq_false]
            intro v hv hfv
            have := hcl v hv t ht hfv
            rw [hh] at this; cases this
          · intro v hv
            rcases List.mem_append.1 hv with h | h
            · exact hs v h
            · simp at h; exact h ▸ ht
          · intro v hv u hu hfu
            rw [hasN_snoc]
            rcases List.mem_append.1 hv with h | h
            · exact .inl (hcl v h u hu hfu)
            · simp at h
              subst h
              unfold okT at ho
              rw [Bool.and_eq_true, List.all_eq_true] at ho
              have := ho.2 u hu
              rw [hfu] at this
              exact .inl (by simpa using this)
      · have ho : okT f L p t = false := by unfold okT; rw [hh]; rfl
        rw [ho]; simp
    constructor
    · rintro ⟨t, ht, h⟩; exact ⟨t, ht, (step t ht).1 h⟩
    · rintro ⟨t, ht, h⟩; exact ⟨t, ht, (step t ht).2 h⟩
theorem rest_nil : restN L [] = L.length := by
  unfold restN
  rw [List.filter_eq_self.2 (fun u _ => by simp [hasN])]
/-- The whole. -/
theorem ser_eq (hL : L.Nodup) (hirr : ∀ a, f a a = false) : decide (0 < perN f L L.length []) = decide (0 < topN f L L.length []) := by
  have h := per_top hL hirr L.length [] rest_nil rfl (fun t ht => by simp at ht) (fun t ht => by simp at ht)
  simp only [h]
end
end Go.Proofs.Ytaflkbemecjcpaa
