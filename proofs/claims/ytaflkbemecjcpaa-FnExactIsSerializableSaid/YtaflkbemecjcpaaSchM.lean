/- Schedules as lists: validity, ends, who commits. No program in sight. -/
import Derived.Test.YtaflkbemecjcpaaModel
namespace Go.Proofs.Ytaflkbemecjcpaa
set_option linter.unusedSimpArgs false
set_option linter.unusedVariables false

/-- How a transaction ends, or -1. -/
def endL (l : List O3) (t : Int) : Int := match l.find? (fun o => o.tx == t && endB o) with | some o => o.kind | none => -1
def OkAt (l : List O3) (k : Nat) : Prop := ∃ h : k < l.length, validB l[k] = true ∧ ∀ j (hj : j < l.length), j < k → ¬ (l[j].tx = l[k].tx ∧ endB l[j] = true)
def ValidP (l : List O3) : Prop := l.length ≤ 16 ∧ ∀ k, k < l.length → OkAt l k

/-- EndOf's value. -/
noncomputable def endV (l : List O3) (t : Int) : Int := if tt (ValidP l) = true then endL l t else -1
theorem endV_eq (l : List O3) (t : Int) : endV l t = if tt (ValidP l) = true then endL l t else -1 := rfl
theorem endB_kind {o : O3} (h : endB o = true) : o.kind = 2 ∨ o.kind = 3 := by simpa [endB] using h
theorem endL_cases (l : List O3) (t : Int) : (endL l t = -1 ∧ ∀ o ∈ l, o.tx = t → endB o = false) ∨ (∃ o ∈ l, o.tx = t ∧ endB o = true ∧ endL l t = o.kind ∧ (endL l t = 2 ∨ endL l t = 3)) := by
  unfold endL
  cases h : l.find? (fun o => o.tx == t && endB o) with
  | none =>
    refine .inl ⟨rfl, fun o ho ht => ?_⟩
    have := List.find?_eq_none.1 h o ho
    simpa [ht] using this
  | some o =>
    have h1 := List.find?_some h
    simp at h1
    exact .inr ⟨o, List.mem_of_find?_eq_some h, h1.1, h1.2, rfl, endB_kind h1.2⟩
theorem endL_nonneg {l : List O3} {t : Int} : 0 ≤ endL l t ↔ ∃ o ∈ l, o.tx = t ∧ endB o = true := by
  rcases endL_cases l t with ⟨h, hn⟩ | ⟨o, ho, ht, he, hk, h⟩
  · rw [h]
    constructor
    · intro h; omega
    · rintro ⟨o, ho, ht, he⟩; rw [hn o ho ht] at he; cases he
  · exact ⟨fun _ => ⟨o, ho, ht, he⟩, fun _ => by omega⟩
theorem endL_val (l : List O3) (t : Int) : endL l t = -1 ∨ endL l t = 2 ∨ endL l t = 3 := by
  rcases endL_cases l t with ⟨h, _⟩ | ⟨o, _, _, _, _, h⟩
  · exact .inl h
  · exact .inr h
theorem take_mem {α : Type} {l : List α} {k : Nat} {x : α} : x ∈ l.take k ↔ ∃ j, ∃ h : j < l.length, j < k ∧ l[j] = x := by
  rw [List.mem_take_iff_getElem]
  constructor
  · rintro ⟨j, hj, rfl⟩; exact ⟨j, by omega, by omega, rfl⟩
  · rintro ⟨j, hj, hk, rfl⟩; exact ⟨j, by omega, rfl⟩
/-- what the program asks at an index -/
theorem okAt_iff {l : List O3} {k : Nat} (hk : k < l.length) : OkAt l k ↔ validB l[k] = true ∧ ¬ 0 ≤ endL (l.take k) l[k].tx := by
  rw [endL_nonneg]
  constructor
  · rintro ⟨_, h1, h2⟩
    refine ⟨h1, ?_⟩
    rintro ⟨o, ho, ht, he⟩
    obtain ⟨j, hj, hjk, rfl⟩ := take_mem.1 ho
    exact h2 j hj hjk ⟨ht, he⟩
  · rintro ⟨h1, h2⟩
    exact ⟨hk, h1, fun j hj hjk ⟨ht, he⟩ => h2 ⟨l[j], take_mem.2 ⟨j, hj, hjk, rfl⟩, ht, he⟩⟩
/-- a search that goes on -/
theorem find_step {α : Type} {p : α → Bool} {l : List α} {k : Nat} (hk : k < l.length) (h : ∀ j (hj : j < l.length), j < k → p l[j] = false) (h1 : p l[k] = true) : l.find? p = some l[k] := by
  rw [List.find?_eq_some_iff_getElem]
  exact ⟨h1, k, hk, rfl, fun j hj => by simp [h j (by omega) hj]⟩
theorem find_none {α : Type} {p : α → Bool} {l : List α} (h : ∀ j (hj : j < l.length), p l[j] = false) : l.find? p = none := by
  rw [List.find?_eq_none]
  intro x hx
  obtain ⟨j, hj, rfl⟩ := List.getElem_of_mem hx
  simp [h j hj]
theorem all_below_succ {p : Nat → Prop} {k : Nat} (h : ∀ j, j < k → p j) (hk : p k) : ∀ j, j < k + 1 → p j := fun j hj => by
  by_cases e : j = k
  · subst e; exact hk
  · exact h j (by omega)

/-! ### Filters, an element at a time -/
theorem filter_take_yes {α : Type} {p : α → Bool} {l : List α} {k : Nat} (hk : k < l.length) (h : p l[k] = true) : (l.take (k + 1)).filter p = (l.take k).filter p ++ [l[k]] := by
  rw [List.take_succ_eq_append_getElem hk, List.filter_append]
  simp only [List.filter_cons, h, if_true, List.filter_nil]
theorem filter_take_no {α : Type} {p : α → Bool} {l : List α} {k : Nat} (hk : k < l.length) (h : p l[k] = false) : (l.take (k + 1)).filter p = (l.take k).filter p := by
  rw [List.take_succ_eq_append_getElem hk, List.filter_append]
  simp only [List.filter_cons, h, Bool.false_eq_true, if_false, List.filter_nil, List.append_nil]
theorem filter_take_le {α : Type} (p : α → Bool) (l : List α) (k : Nat) : ((l.take k).filter p).length ≤ l.length := by
  have h1 := List.length_filter_le p (l.take k)
  have h2 := List.length_take_le' k l
  omega
end Go.Proofs.Ytaflkbemecjcpaa
