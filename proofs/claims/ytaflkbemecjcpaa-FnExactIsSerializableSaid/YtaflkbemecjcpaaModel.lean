/- Plain words: operations and steps as three numbers, schedules as lists; what the program's functions compute. No program in sight. -/
import Derived.WalkKit
namespace Go.Proofs.Ytaflkbemecjcpaa
set_option linter.unusedSimpArgs false
set_option linter.unusedVariables false

/-- An operation or a step: its transaction, its kind, its item. -/
structure O3 where
  tx : Int
  kind : Int
  item : Int

namespace O3
def val (o : O3) : Value := .agg #[.int .i64 o.tx, .int .i64 o.kind, .int .i64 o.item]
def eqb (a b : O3) : Bool := a.tx == b.tx && (a.kind == b.kind && a.item == b.item)
theorem eqb_iff (a b : O3) : a.eqb b = true ↔ a = b := by
  cases a; cases b; simp [eqb]
theorem eqb_self (a : O3) : a.eqb a = true := by simp [eqb]
end O3

/-- A number lies between two others. -/
def inR (n lo hi : Int) : Bool := decide (lo ≤ n ∧ n ≤ hi)
def accB (o : O3) : Bool := o.kind == 0 || o.kind == 1
def endB (o : O3) : Bool := o.kind == 2 || o.kind == 3
def validB (o : O3) : Bool := inR o.tx 0 3 && (accB o && inR o.item 0 2 || endB o && o.item == 0)
def conflB (a b : O3) : Bool := a.tx != b.tx && (accB a && (accB b && (a.item == b.item && (a.kind == 1 || b.kind == 1))))
/-- The reference's: it asks that neither ends. -/
def conflS (a b : O3) : Bool := a.tx != b.tx && (!endB a && (!endB b && (a.item == b.item && (a.kind == 1 || b.kind == 1))))

theorem validB_kind {o : O3} (h : validB o = true) : accB o = !endB o := by
  unfold validB accB endB inR at *
  by_cases h0 : o.kind = 0 <;> by_cases h1 : o.kind = 1 <;> by_cases h2 : o.kind = 2 <;> by_cases h3 : o.kind = 3 <;> simp_all
theorem confl_same {a b : O3} (ha : validB a = true) (hb : validB b = true) : conflS a b = conflB a b := by
  simp [conflS, conflB, validB_kind ha, validB_kind hb]
theorem confl_comm (a b : O3) : conflB a b = conflB b a := by
  unfold conflB
  have e1 : (a.tx != b.tx) = (b.tx != a.tx) := by simp [bne, BEq.comm]
  have e2 : (a.item == b.item) = (b.item == a.item) := BEq.comm
  rw [e1, e2]
  cases accB a <;> cases accB b <;> simp [Bool.or_comm]
theorem confl_self (a : O3) : conflB a a = false := by simp [conflB]

/-! ### Steps with locks -/
def stepB (o : O3) : Bool := inR o.tx 0 3 && (inR o.kind 0 4 && inR o.item 0 2)
def stepsB (l : List O3) : Bool := l.all stepB && decide (l.length ≤ 40)

/-! ### Lists, an element at a time -/
theorem take_all_succ {α : Type} {p : α → Bool} {l : List α} {k : Nat} (hk : k < l.length) (h : (l.take k).all p = true) (h1 : p l[k] = true) : (l.take (k + 1)).all p = true := by
  rw [List.take_succ_eq_append_getElem hk, List.all_append, h]; simp [h1]
theorem all_false {α : Type} {p : α → Bool} {l : List α} {k : Nat} (hk : k < l.length) (h1 : p l[k] = false) : l.all p = false := by
  rw [List.all_eq_false]; exact ⟨l[k], List.getElem_mem hk, by simp [h1]⟩
theorem take_all {α : Type} {p : α → Bool} {l : List α} (h : (l.take l.length).all p = true) : l.all p = true := by simpa using h

/-- The index of the first one that a test takes, or -1. -/
def idxB {α : Type} (p : α → Bool) (l : List α) : Int := match l.findIdx? p with | some i => (i : Int) | none => -1
section
variable {α : Type} {p : α → Bool} {l : List α} {k : Nat}
theorem take_none_iff : (l.take k).findIdx? p = none ↔ ∀ j (h : j < l.length), j < k → p l[j] = false := by
  rw [List.findIdx?_eq_none_iff]
  constructor
  · intro h j hj hk
    exact h _ (List.mem_take_iff_getElem.2 ⟨j, by omega, rfl⟩)
  · intro h x hx
    obtain ⟨j, hj, rfl⟩ := List.mem_take_iff_getElem.1 hx
    exact h j (by omega) (by omega)
theorem idx_hit (hk : k < l.length) (h : (l.take k).findIdx? p = none) (h1 : p l[k] = true) : (k : Int) = idxB p l := by
  have e : l.findIdx? p = some k := by
    rw [List.findIdx?_eq_some_iff_getElem]
    refine ⟨hk, h1, fun j hj => ?_⟩
    simp [take_none_iff.1 h j (by omega) hj]
  simp [idxB, e]
theorem idx_on (hk : k < l.length) (h : (l.take k).findIdx? p = none) (h1 : p l[k] = false) : (l.take (k + 1)).findIdx? p = none := by
  rw [take_none_iff] at *
  intro j hj hj1
  by_cases e : j = k
  · subst e; exact h1
  · exact h j hj (by omega)
theorem idx_none (h : l.findIdx? p = none) : -1 = idxB p l := by simp [idxB, h]
theorem idx_any (p : α → Bool) (l : List α) : decide (0 ≤ idxB p l) = l.any p := by
  unfold idxB
  cases h : l.findIdx? p with
  | none =>
    rw [List.findIdx?_eq_none_iff] at h
    have : l.any p = false := by simpa using h
    simp [this]
  | some i =>
    obtain ⟨hi, hp, _⟩ := List.findIdx?_eq_some_iff_getElem.1 h
    have : l.any p = true := List.any_eq_true.2 ⟨_, List.getElem_mem hi, hp⟩
    simp [this]
theorem any_not (p : α → Bool) (l : List α) : (!l.any fun o => !p o) = l.all p := by simp [List.all_eq_not_any_not]
end

/-! ### Truth of a proposition as a Bool -/
noncomputable def tt (p : Prop) : Bool := @decide p (Classical.propDecidable p)
theorem tt_true {p : Prop} (h : p) : tt p = true := by simp [tt, h]
theorem tt_false {p : Prop} (h : ¬ p) : tt p = false := by simp [tt, h]
theorem tt_iff {p q : Prop} (h : p ↔ q) : tt p = tt q := by
  by_cases hp : p
  · rw [tt_true hp, tt_true (h.1 hp)]
  · rw [tt_false hp, tt_false (fun hq => hp (h.2 hq))]
theorem tt_eq {p : Prop} : tt p = true ↔ p := by by_cases h : p <;> simp [tt_true, tt_false, h]
theorem tt_bool (b : Bool) : tt (b = true) = b := by cases b <;> simp [tt]
theorem and2 (a b : Bool) : a = false ∨ (a = true ∧ b = false) ∨ (a = true ∧ b = true) := by cases a <;> cases b <;> simp
theorem and3 (a b c : Bool) : a = false ∨ (a = true ∧ b = false) ∨ (a = true ∧ b = true ∧ c = false) ∨ (a = true ∧ b = true ∧ c = true) := by cases a <;> cases b <;> cases c <;> simp
theorem or2 (a b : Bool) : a = true ∨ (a = false ∧ b = false) ∨ (a = false ∧ b = true) := by cases a <;> cases b <;> simp

/-! ### Two phases -/
def BadP (l : List O3) (i j : Nat) : Prop := ∃ (hi : i < l.length) (hj : j < l.length), i < j ∧ l[i].tx = l[j].tx ∧ l[i].kind = 2 ∧ l[j].kind ≤ 1
/-- Nobody takes a lock behind giving one back. -/
def TwoP (l : List O3) : Prop := ∀ i j, ¬ BadP l i j
/-- A transaction has given a lock back in the first k steps. -/
def freedB (l : List O3) (k : Nat) (t : Int) : Bool := (l.take k).any fun o => o.tx == t && o.kind == 2
theorem freed_iff {l : List O3} {k : Nat} {t : Int} : freedB l k t = true ↔ ∃ i, ∃ (hi : i < l.length), i < k ∧ l[i].tx = t ∧ l[i].kind = 2 := by
  unfold freedB
  rw [List.any_eq_true]
  constructor
  · rintro ⟨x, hx, hp⟩
    obtain ⟨i, hi, rfl⟩ := List.mem_take_iff_getElem.1 hx
    simp at hp
    exact ⟨i, by omega, by omega, hp⟩
  · rintro ⟨i, hi, hk, h1, h2⟩
    exact ⟨l[i], List.mem_take_iff_getElem.2 ⟨i, by omega, rfl⟩, by simp [h1, h2]⟩
theorem freed_succ {l : List O3} {k : Nat} (hk : k < l.length) (t : Int) : freedB l (k + 1) t = (freedB l k t || (l[k].tx == t && l[k].kind == 2)) := by
  unfold freedB
  rw [List.take_succ_eq_append_getElem hk, List.any_append]; simp only [List.any_cons, List.any_nil, Bool.or_false]
theorem steps_at {l : List O3} (h : l.all stepB = true) {k : Nat} (hk : k < l.length) : (0 ≤ l[k].tx ∧ l[k].tx ≤ 3) ∧ (0 ≤ l[k].kind ∧ l[k].kind ≤ 4) ∧ (0 ≤ l[k].item ∧ l[k].item ≤ 2) := by
  have h1 := List.all_eq_true.1 h l[k] (List.getElem_mem hk)
  simpa [stepB, inR] using h1
end Go.Proofs.Ytaflkbemecjcpaa
