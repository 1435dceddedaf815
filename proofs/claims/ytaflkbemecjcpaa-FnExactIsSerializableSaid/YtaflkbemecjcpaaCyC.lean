/- The first shortest circle of a graph of four: the plain side. -/
import Derived.Test.YtaflkbemecjcpaaGrM
namespace Go.Proofs.Ytaflkbemecjcpaa
set_option linter.unusedSimpArgs false
set_option linter.unusedVariables false

def hasN : List Nat → Nat → Bool
  | [], _ => false
  | x :: r, n => Nat.beq x n || hasN r n
def headN : List Nat → Nat
  | [] => 0
  | x :: _ => x
def lastN : List Nat → Nat
  | [] => 0
  | [x] => x
  | _ :: y :: r => lastN (y :: r)
def loopU (g : List Nat → Nat → List Nat) : List Nat → List Nat → List Nat
  | [], b => b
  | u :: r, b => loopU g r (g b u)
def better (best q : List Nat) : Bool := match best with | [] => true | _ => Nat.blt q.length best.length
/-- What of the best a path leaves when it is walked on from. -/
def dfs (f : Nat → Nat → Bool) : Nat → List Nat → List Nat → Nat → List Nat
  | 0, _, best, _ => best
  | k + 1, p, best, t =>
    loopU (fun b u => if f t u && (Nat.blt (headN (p ++ [t])) u && !(hasN (p ++ [t]) u)) then dfs f k (p ++ [t]) b u else b) [0, 1, 2, 3] (if f t (headN (p ++ [t])) && better best (p ++ [t]) then p ++ [t] else best)
def cirL (f : Nat → Nat → Bool) : List Nat := loopU (fun b t => dfs f 4 [] b t) [0, 1, 2, 3] []
def firstU (g : Nat → List Nat) : List Nat → List Nat
  | [] => []
  | u :: r => match g u with | [] => firstU g r | x => x
/-- The first circle that begins with some, of so many more. -/
def cycF (f : Nat → Nat → Bool) : Nat → List Nat → List Nat
  | 0, head => if f (lastN head) (headN head) then head else []
  | k + 1, head => firstU (fun t => if Nat.blt (headN head) t && (!(hasN head t) && f (lastN head) t) then cycF f k (head ++ [t]) else []) [0, 1, 2, 3]
def cycL (f : Nat → Nat → Bool) : List Nat := firstU (fun n => firstU (fun t => cycF f (n - 1) [t]) [0, 1, 2, 3]) [2, 3, 4]
/-- A graph of four by its twelve edges. -/
def tab (a b c d e f g h i j k l : Bool) : Nat → Nat → Bool
  | 0, 1 => a | 0, 2 => b | 0, 3 => c
  | 1, 0 => d | 1, 2 => e | 1, 3 => f
  | 2, 0 => g | 2, 1 => h | 2, 3 => i
  | 3, 0 => j | 3, 1 => k | 3, 2 => l
  | _, _ => false
def eqN : List Nat → List Nat → Bool
  | [], [] => true
  | x :: r, y :: s => Nat.beq x y && eqN r s
  | _, _ => false
def allBo (p : Bool → Bool) : Bool := p false && p true
theorem allBo_at {p : Bool → Bool} (h : allBo p = true) (b : Bool) : p b = true := by
  unfold allBo at h
  cases b <;> simp_all
theorem eqN_eq : ∀ {x y : List Nat}, eqN x y = true → x = y
  | [], [], _ => rfl
  | a :: x, b :: y, h => by
    simp only [eqN, Bool.and_eq_true] at h
    rw [Nat.eq_of_beq_eq_true h.1, eqN_eq h.2]
  | [], _ :: _, h => by simp [eqN] at h
  | _ :: _, [], h => by simp [eqN] at h
set_option maxRecDepth 100000 in
theorem all_cyc : (allBo fun a => allBo fun b => allBo fun c => allBo fun d => allBo fun e => allBo fun f => allBo fun g => allBo fun h => allBo fun i => allBo fun j => allBo fun k => allBo fun l => eqN (cirL (tab a b c d e f g h i j k l)) (cycL (tab a b c d e f g h i j k l))) = true := by kernel_rfl
def tabOf (f : Nat → Nat → Bool) : Nat → Nat → Bool := tab (f 0 1) (f 0 2) (f 0 3) (f 1 0) (f 1 2) (f 1 3) (f 2 0) (f 2 1) (f 2 3) (f 3 0) (f 3 1) (f 3 2)
theorem cir_cyc (f : Nat → Nat → Bool) : cirL (tabOf f) = cycL (tabOf f) :=
  eqN_eq (allBo_at (allBo_at (allBo_at (allBo_at (allBo_at (allBo_at (allBo_at (allBo_at (allBo_at (allBo_at (allBo_at (allBo_at all_cyc (f 0 1)) (f 0 2)) (f 0 3)) (f 1 0)) (f 1 2)) (f 1 3)) (f 2 0)) (f 2 1)) (f 2 3)) (f 3 0)) (f 3 1)) (f 3 2))
theorem tabOf_mk4 {f : Nat → Nat → Bool} (h : ∀ a, f a a = false) : mk4 (tabOf f) = mk4 f := by
  refine mk4_same fun a b ha hb => ?_
  have h0 := h 0
  have h1 := h 1
  have h2 := h 2
  have h3 := h 3
  match a, b, ha, hb with
  | 0, 0, _, _ => rw [h0]; rfl
  | 0, 1, _, _ => rfl
  | 0, 2, _, _ => rfl
  | 0, 3, _, _ => rfl
  | 1, 0, _, _ => rfl
  | 1, 1, _, _ => rw [h1]; rfl
  | 1, 2, _, _ => rfl
  | 1, 3, _, _ => rfl
  | 2, 0, _, _ => rfl
  | 2, 1, _, _ => rfl
  | 2, 2, _, _ => rw [h2]; rfl
  | 2, 3, _, _ => rfl
  | 3, 0, _, _ => rfl
  | 3, 1, _, _ => rfl
  | 3, 2, _, _ => rfl
  | 3, 3, _, _ => rw [h3]; rfl
/-- A graph by conflicts has no edge to itself. -/
theorem cf_txN {l : List O3} {i k : Nat} (h : cfAt l i k = true) (hl : ∀ j (hj : j < l.length), 0 ≤ l[j].tx) : txN l i ≠ txN l k := by
  unfold cfAt at h
  split at h
  · rename_i hh
    unfold txN
    rw [dif_pos hh.1, dif_pos hh.2]
    have a := hl i hh.1
    have b := hl k hh.2
    intro e
    have e' : l[i].tx = l[k].tx := by omega
    simp [conflB, e'] at h
  · cases h
theorem eIn_irr {l : List O3} (hl : ∀ j (hj : j < l.length), 0 ≤ l[j].tx) {i : Nat} {f : Nat → Nat → Bool} (hf : ∀ a, f a a = false) : ∀ k a, eIn l i f k a a = false
  | 0, a => by rw [eIn_start l i f 0 (by omega)]; exact hf a
  | k + 1, a => by
    have ih := eIn_irr hl (i := i) hf k a
    by_cases hik : i < k
    · cases hc : cfAt l i k
      · rw [eIn_no hc]; exact ih
      · rw [eIn_yes hik hc]
        have := cf_txN hc hl
        unfold addE
        rw [ih, Bool.false_or, Bool.eq_false_iff]
        intro e
        simp only [Bool.and_eq_true, beq_iff_eq] at e
        exact this (e.1.symm.trans e.2)
    · rw [eIn_start l i f (k + 1) (by omega)]; exact hf a
theorem eTo_irr {l : List O3} (hl : ∀ j (hj : j < l.length), 0 ≤ l[j].tx) : ∀ i a, eTo l i a a = false
  | 0, a => rfl
  | i + 1, a => by
    rw [eTo]
    exact eIn_irr hl (eTo_irr hl i) _ a

end Go.Proofs.Ytaflkbemecjcpaa
