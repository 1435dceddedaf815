/- The first operation that breaks a rule: the plain side. -/
import Derived.Test.YtafjlklcffbbfaaReads
namespace Go.Proofs.Ytafjlklcffbbfaa
set_option linter.unusedSimpArgs false
set_option linter.unusedVariables false

def anyTo (p : Nat → Bool) : Nat → Bool
  | 0 => false
  | n + 1 => anyTo p n || p n
theorem anyTo_iff {p : Nat → Bool} : ∀ {n : Nat}, anyTo p n = true ↔ ∃ k, k < n ∧ p k = true
  | 0 => by simp [anyTo]
  | n + 1 => by
    rw [anyTo, Bool.or_eq_true, anyTo_iff]
    constructor
    · rintro (⟨k, hk, h⟩ | h)
      · exact ⟨k, by omega, h⟩
      · exact ⟨n, by omega, h⟩
    · rintro ⟨k, hk, h⟩
      by_cases e : k = n
      · subst e; exact .inr h
      · exact .inl ⟨k, by omega, h⟩
theorem anyTo_hit {p : Nat → Bool} {k n : Nat} (hk : k < n) (h : p k = true) : anyTo p n = true := anyTo_iff.2 ⟨k, hk, h⟩
theorem anyTo_on {p : Nat → Bool} {k : Nat} (h : anyTo p k = false) (hp : p k = false) : anyTo p (k + 1) = false := by rw [anyTo, h, hp]; rfl
theorem anyTo_congr {p q : Nat → Bool} {n : Nat} (h : ∀ k, k < n → p k = q k) : anyTo p n = anyTo q n := by
  rw [Bool.eq_iff_iff, anyTo_iff, anyTo_iff]
  constructor
  · rintro ⟨k, hk, h1⟩; exact ⟨k, hk, by rw [← h k hk]; exact h1⟩
  · rintro ⟨k, hk, h1⟩; exact ⟨k, hk, by rw [h k hk]; exact h1⟩
/-- The first place below n that a test takes, or -1. -/
def fstTo (p : Nat → Bool) : Nat → Int
  | 0 => -1
  | n + 1 => if anyTo p n = true then fstTo p n else if p n = true then (n : Int) else -1
theorem fst_none {p : Nat → Bool} {n : Nat} (h : anyTo p n = false) : fstTo p n = -1 := by
  cases n with
  | zero => rfl
  | succ n =>
    rw [anyTo, Bool.or_eq_false_iff] at h
    rw [fstTo, if_neg (by rw [h.1]; simp), if_neg (by rw [h.2]; simp)]
theorem fst_hit {p : Nat → Bool} {k : Nat} (h : anyTo p k = false) (hp : p k = true) : ∀ {n : Nat}, k < n → fstTo p n = k := by
  intro n
  induction n with
  | zero => intro h; omega
  | succ n ih =>
    intro hk
    by_cases e : k = n
    · subst e; rw [fstTo, if_neg (by rw [h]; simp), if_pos hp]
    · rw [fstTo, if_pos (anyTo_hit (by omega) hp)]
      exact ih (by omega)
theorem fst_cases (p : Nat → Bool) (n : Nat) : (fstTo p n = -1 ∧ anyTo p n = false) ∨ ∃ k, k < n ∧ fstTo p n = k ∧ p k = true ∧ anyTo p k = false := by
  induction n with
  | zero => exact .inl ⟨rfl, rfl⟩
  | succ n ih =>
    rcases ih with ⟨h1, h2⟩ | ⟨k, hk, h1, h2, h3⟩
    · cases hp : p n
      · exact .inl ⟨by rw [fstTo, if_neg (by rw [h2]; simp), if_neg (by rw [hp]; simp)], anyTo_on h2 hp⟩
      · exact .inr ⟨n, by omega, fst_hit h2 hp (by omega), hp, h2⟩
    · exact .inr ⟨k, by omega, fst_hit h3 h2 (by omega), h2, h3⟩
def atO (l : List O3) (k : Nat) : O3 := l.getD k ⟨0, 0, 0⟩
theorem atO_eq {l : List O3} {k : Nat} (h : k < l.length) : atO l k = l[k] := by simp [atO, List.getD, List.getElem?_eq_getElem h]
def comB (l : List O3) (i : Nat) (t : Int) : Bool := (l.take i).any fun o => o.tx == t && o.kind == 2
def actB (l : List O3) (i : Nat) (t : Int) : Bool := !(l.take i).any fun o => o.tx == t && endB o
theorem comB_iff {l : List O3} {i : Nat} {t : Int} : comB l i t = true ↔ ∃ j, ∃ h : j < l.length, j < i ∧ l[j].tx = t ∧ l[j].kind = 2 := by
  unfold comB
  rw [List.any_eq_true]
  constructor
  · rintro ⟨o, ho, h⟩
    obtain ⟨j, hj, hji, rfl⟩ := take_mem.1 ho
    simp at h
    exact ⟨j, hj, hji, h.1, h.2⟩
  · rintro ⟨j, hj, hji, h1, h2⟩
    exact ⟨l[j], take_mem.2 ⟨j, hj, hji, rfl⟩, by simp [h1, h2]⟩
theorem comB_end {l : List O3} (hv : ValidP l) (i : Nat) (t : Int) : comB l i t = (endL (l.take i) t == 2) := by
  rcases endL_cases (l.take i) t with ⟨h, hn⟩ | ⟨o, ho, ht, he, hk, h⟩
  · rw [h, Bool.eq_iff_iff, comB_iff]
    constructor
    · rintro ⟨j, hj, hji, h1, h2⟩
      have := hn l[j] (take_mem.2 ⟨j, hj, hji, rfl⟩) h1
      simp [endB, h2] at this
    · intro h; simp at h
  · rw [Bool.eq_iff_iff, comB_iff]
    obtain ⟨j, hj, hji, rfl⟩ := take_mem.1 ho
    constructor
    · rintro ⟨j', hj', hji', h1, h2⟩
      have h3 : endB l[j'] = true := by simp [endB, h2]
      rcases Nat.lt_trichotomy j j' with h4 | h4 | h4
      · exact absurd ⟨ht.trans h1.symm, he⟩ ((hv.2 j' hj').2.2 j hj h4)
      · subst h4
        rw [hk]; simp [h2]
      · exact absurd ⟨h1.trans ht.symm, h3⟩ ((hv.2 j hj).2.2 j' hj' h4)
    · intro h5
      refine ⟨j, hj, hji, ht, ?_⟩
      rw [hk] at h5
      simpa using h5
theorem actB_end (l : List O3) (i : Nat) (t : Int) : actB l i t = decide (endL (l.take i) t < 0) := by
  unfold actB
  have h := endL_nonneg (l := l.take i) (t := t)
  cases ha : ((l.take i).any fun o => o.tx == t && endB o)
  · have hn : ¬ 0 ≤ endL (l.take i) t := by
      rw [h]; rintro ⟨o, ho, h1, h2⟩
      rw [List.any_eq_false] at ha
      have := ha o ho
      simp [h1, h2] at this
    simp; omega
  · obtain ⟨o, ho, h1⟩ := List.any_eq_true.1 ha
    simp at h1
    have hp : 0 ≤ endL (l.take i) t := h.2 ⟨o, ho, h1.1, h1.2⟩
    simp; omega
def dirtyI (l : List O3) (k i : Nat) : Bool := decide (0 ≤ srcI l k) && (!(srcI l k == (atO l k).tx) && !(endL (l.take i) (srcI l k) == 2))
def dirtyS (l : List O3) (k i : Nat) (t : Int) : Bool := decide (0 ≤ srcS l k) && (!(srcS l k == t) && !comB l i (srcS l k))
theorem dirty_same {l : List O3} (hv : ValidP l) (k i : Nat) (t : Int) (h : (atO l k).tx = t) : dirtyS l k i t = dirtyI l k i := by
  unfold dirtyS dirtyI; rw [srcS_eq hv, comB_end hv, h]
def p0I (l : List O3) (i k : Nat) : Bool := (atO l k).tx == (atO l i).tx && ((atO l k).kind == 0 && dirtyI l k i)
def p0S (l : List O3) (i k : Nat) : Bool := (atO l k).tx == (atO l i).tx && ((atO l k).kind == 0 && dirtyS l k i (atO l i).tx)
def q4I (l : List O3) (i k j : Nat) : Bool := (atO l k).tx == (atO l i).tx && (conflB (atO l k) (atO l j) && (endL (l.take i) (atO l j).tx == 2))
def q4S (l : List O3) (i k j : Nat) : Bool := (atO l k).tx == (atO l i).tx && (conflS (atO l k) (atO l j) && comB l i (atO l j).tx)
def p4I (l : List O3) (i k : Nat) : Bool := anyTo (fun m => q4I l i k (k + 1 + m)) (i - (k + 1))
def p4S (l : List O3) (i k : Nat) : Bool := anyTo (fun m => q4S l i k (k + 1 + m)) (l.length - (k + 1))
def p23I (takes : O3 → Bool) (l : List O3) (i : Nat) (o : O3) : Bool := takes o && (conflB o (atO l i) && decide (endL (l.take i) o.tx < 0))
def p23S (rig : Bool) (l : List O3) (i : Nat) (o : O3) : Bool := conflS o (atO l i) && (actB l i o.tx && (rig || o.kind == 1))
/-- Whether the operation at i breaks the rule r: as the program has it. -/
def brkI (r : Nat) (l : List O3) (i : Nat) : Bool :=
  match r with
  | 0 => (atO l i).kind == 2 && anyTo (p0I l i) i
  | 1 => (atO l i).kind == 0 && dirtyI l i i
  | 2 => (l.take i).any (p23I (fun o => o.kind == 1) l i)
  | 3 => (l.take i).any (p23I accB l i)
  | 4 => (atO l i).kind == 2 && anyTo (p4I l i) i
  | _ => false
/-- As the reference has it. -/
def brkS (r : Nat) (l : List O3) (i : Nat) : Bool :=
  match r with
  | 0 => (atO l i).kind == 2 && anyTo (p0S l i) i
  | 1 => (atO l i).kind == 0 && dirtyS l i i (atO l i).tx
  | 2 => (l.take i).any (p23S false l i)
  | 3 => (l.take i).any (p23S true l i)
  | 4 => (atO l i).kind == 2 && anyTo (p4S l i) i
  | _ => false
theorem any_congr {α : Type} {p q : α → Bool} {l : List α} (h : ∀ x ∈ l, p x = q x) : l.any p = l.any q := by
  rw [Bool.eq_iff_iff, List.any_eq_true, List.any_eq_true]
  constructor
  · rintro ⟨x, hx, h1⟩; exact ⟨x, hx, by rw [← h x hx]; exact h1⟩
  · rintro ⟨x, hx, h1⟩; exact ⟨x, hx, by rw [h x hx]; exact h1⟩
theorem p4_same {l : List O3} (hv : ValidP l) {i k : Nat} (hi : i < l.length) (hk : k < i) : p4S l i k = p4I l i k := by
  unfold p4S p4I
  have hq : ∀ j, j < l.length → q4S l i k j = q4I l i k j := by
    intro j hj
    unfold q4S q4I
    rw [comB_end hv, atO_eq (show k < l.length by omega), atO_eq hj, confl_same (hv.2 k (by omega)).2.1 (hv.2 j hj).2.1]
  rw [Bool.eq_iff_iff, anyTo_iff, anyTo_iff]
  constructor
  · rintro ⟨m, hm, h⟩
    have hj : k + 1 + m < l.length := by omega
    have hc : comB l i (atO l (k + 1 + m)).tx = true := by
      unfold q4S at h
      simp only [Bool.and_eq_true] at h
      exact h.2.2
    obtain ⟨c, hcl, hci, h1, h2⟩ := comB_iff.1 hc
    rw [atO_eq hj] at h1
    have hle : k + 1 + m ≤ c := by
      rcases Nat.lt_or_ge c (k + 1 + m) with h4 | h4
      · exact absurd ⟨h1, by simp [endB, h2]⟩ ((hv.2 _ hj).2.2 c hcl h4)
      · exact h4
    exact ⟨m, by omega, by rw [← hq _ hj]; exact h⟩
  · rintro ⟨m, hm, h⟩
    exact ⟨m, by omega, by rw [hq _ (by omega)]; exact h⟩
theorem confl_acc {a b : O3} (h : conflB a b = true) : accB a = true := by
  unfold conflB at h
  simp only [Bool.and_eq_true] at h
  exact h.2.1
theorem p23_same {l : List O3} (hv : ValidP l) {i : Nat} (hi : i < l.length) {o : O3} (ho : o ∈ l) : p23S false l i o = p23I (fun o => o.kind == 1) l i o ∧ p23S true l i o = p23I accB l i o := by
  obtain ⟨k, hk, rfl⟩ := List.getElem_of_mem ho
  unfold p23S p23I
  rw [actB_end, atO_eq hi, confl_same (hv.2 k hk).2.1 (hv.2 i hi).2.1]
  constructor
  · show (conflB l[k] l[i] && (decide (endL (l.take i) l[k].tx < 0) && (false || l[k].kind == 1))) = ((l[k].kind == 1) && (conflB l[k] l[i] && decide (endL (l.take i) l[k].tx < 0)))
    generalize conflB l[k] l[i] = x
    generalize decide (endL (l.take i) l[k].tx < 0) = y
    generalize (l[k].kind == 1) = z
    cases x <;> cases y <;> cases z <;> rfl
  · cases h : conflB l[k] l[i]
    · simp
    · rw [confl_acc h]; simp
theorem brk_same {l : List O3} (hv : ValidP l) (r : Nat) {i : Nat} (hi : i < l.length) : brkS r l i = brkI r l i := by
  unfold brkS brkI
  split
  · congr 1
    apply anyTo_congr
    intro k hk
    unfold p0S p0I
    cases e : (atO l k).tx == (atO l i).tx
    · rfl
    · rw [dirty_same hv k i _ (eq_of_beq e)]
  · rw [dirty_same hv i i _ rfl]
  · exact any_congr fun o ho => (p23_same hv hi (List.mem_of_mem_take ho)).1
  · exact any_congr fun o ho => (p23_same hv hi (List.mem_of_mem_take ho)).2
  · congr 1
    exact anyTo_congr fun k hk => p4_same hv hi hk
  · rfl
/-- The first fault of a rule. -/
noncomputable def faultV (r : Option Nat) (l : List O3) : Int × Bool := match r with
  | none => (-1, false)
  | some r => if tt (ValidP l) = true then (fstTo (brkI r l) l.length, true) else (-1, false)
noncomputable def keepsV (r : Option Nat) (l : List O3) : Bool := (faultV r l).2 && decide ((faultV r l).1 < 0)
theorem fst_congr {p q : Nat → Bool} {n : Nat} (h : ∀ k, k < n → p k = q k) : fstTo p n = fstTo q n := by
  induction n with
  | zero => rfl
  | succ n ih =>
    rw [fstTo, fstTo, ih (fun k hk => h k (by omega)), anyTo_congr (fun k hk => h k (by omega)), h n (by omega)]
end Go.Proofs.Ytafjlklcffbbfaa
