/- From whom a read reads: contracts of the functions behind ReadsOf, the reference's and the program's. -/
import Derived.Test.YtaflkbemecjcpaaTxs
namespace Go.Proofs.Ytaflkbemecjcpaa
set_option linter.unusedSimpArgs false
set_option linter.unusedVariables false
open Go.RowKit

/-! ### The plain side -/
/-- The transaction of the last of the first k operations that a test takes, or -1. -/
def srcAt (g : O3 → Bool) (l : List O3) : Nat → Int
  | 0 => -1
  | k + 1 => if h : k < l.length then (if g l[k] then l[k].tx else srcAt g l k) else srcAt g l k
theorem srcAt_yes {g : O3 → Bool} {l : List O3} {k : Nat} (hk : k < l.length) (h : g l[k] = true) : srcAt g l (k + 1) = l[k].tx := by simp [srcAt, hk, h]
theorem srcAt_no {g : O3 → Bool} {l : List O3} {k : Nat} (hk : k < l.length) (h : g l[k] = false) : srcAt g l (k + 1) = srcAt g l k := by simp [srcAt, hk, h]
theorem srcAt_congr {g g' : O3 → Bool} (h : ∀ o, g o = g' o) (l : List O3) (k : Nat) : srcAt g l k = srcAt g' l k := by
  have : g = g' := funext h
  rw [this]
def abB (l : List O3) (i : Nat) (t : Int) : Bool := (l.take i).any fun o => o.tx == t && o.kind == 3
theorem abB_iff {l : List O3} {i : Nat} {t : Int} : abB l i t = true ↔ ∃ j, ∃ h : j < l.length, j < i ∧ l[j].tx = t ∧ l[j].kind = 3 := by
  unfold abB
  rw [List.any_eq_true]
  constructor
  · rintro ⟨o, ho, h⟩
    obtain ⟨j, hj, hji, rfl⟩ := take_mem.1 ho
    simp at h
    exact ⟨j, hj, hji, h.1, h.2⟩
  · rintro ⟨j, hj, hji, h1, h2⟩
    exact ⟨l[j], take_mem.2 ⟨j, hj, hji, rfl⟩, by simp [h1, h2]⟩
theorem abB_end {l : List O3} (hv : ValidP l) (i : Nat) (t : Int) : abB l i t = (endL (l.take i) t == 3) := by
  rcases endL_cases (l.take i) t with ⟨h, hn⟩ | ⟨o, ho, ht, he, hk, h⟩
  · rw [h, Bool.eq_iff_iff, abB_iff]
    constructor
    · rintro ⟨j, hj, hji, h1, h2⟩
      have := hn l[j] (take_mem.2 ⟨j, hj, hji, rfl⟩) h1
      simp [endB, h2] at this
    · intro h; simp at h
  · rw [Bool.eq_iff_iff, abB_iff]
    obtain ⟨j, hj, hji, rfl⟩ := take_mem.1 ho
    constructor
    · rintro ⟨j', hj', hji', h1, h2⟩
      have h3 : endB l[j'] = true := by simp [endB, h2]
      rcases Nat.lt_trichotomy j j' with h4 | h4 | h4
      · exact absurd ⟨ht.trans h1.symm, he⟩ ((hv.2 j' hj').2.2 j hj h4)
      · subst h4
        rw [hk]; simp [h2]
      · exact absurd ⟨h1.trans ht.symm, h3⟩ ((hv.2 j hj).2.2 j' hj' h4)
    · intro h5
      refine ⟨j, hj, hji, ht, ?_⟩
      rw [hk] at h5
      simpa using h5
def itemAt (l : List O3) (i : Nat) : Int := if h : i < l.length then l[i].item else 0
theorem itemAt_eq {l : List O3} {i : Nat} (h : i < l.length) : itemAt l i = l[i].item := by simp [itemAt, h]
def srcI (l : List O3) (i : Nat) : Int := srcAt (fun o => o.kind == 1 && (o.item == itemAt l i && !(endL (l.take i) o.tx == 3))) l i
def srcS (l : List O3) (i : Nat) : Int := srcAt (fun o => o.kind == 1 && (o.item == itemAt l i && !abB l i o.tx)) l i
theorem srcS_eq {l : List O3} (hv : ValidP l) (i : Nat) : srcS l i = srcI l i := srcAt_congr (fun o => by rw [abB_end hv]) l i
/-- What a function says of each of the first k operations that read. -/
def readsTo (F : Nat → Int) (l : List O3) : Nat → List Int
  | 0 => []
  | k + 1 => if h : k < l.length then (if l[k].kind == 0 then readsTo F l k ++ [F k] else readsTo F l k) else readsTo F l k
theorem readsTo_yes {F : Nat → Int} {l : List O3} {k : Nat} (hk : k < l.length) (h : (l[k].kind == 0) = true) : readsTo F l (k + 1) = readsTo F l k ++ [F k] := by
  rw [readsTo, dif_pos hk, if_pos h]
theorem readsTo_no {F : Nat → Int} {l : List O3} {k : Nat} (hk : k < l.length) (h : (l[k].kind == 0) = false) : readsTo F l (k + 1) = readsTo F l k := by
  rw [readsTo, dif_pos hk, if_neg (by simp [h])]
theorem readsTo_le (F : Nat → Int) (l : List O3) (k : Nat) : (readsTo F l k).length ≤ k := by
  induction k with
  | zero => simp [readsTo]
  | succ k ih => unfold readsTo; split <;> (try split) <;> (try simp) <;> omega
/-- ReadsOf's value. -/
noncomputable def readsV (l : List O3) : List Int := if tt (ValidP l) = true then readsTo (srcI l) l l.length else []
theorem readsV_len (l : List O3) (hl : l.length ≤ 1048576) : (readsV l).length ≤ 1048576 := by
  unfold readsV; split
  · have := readsTo_le (srcI l) l l.length; omega
  · simp
theorem readsS_same {l : List O3} (hv : ValidP l) : readsTo (srcS l) l l.length = readsTo (srcI l) l l.length := by
  have : srcS l = srcI l := funext (srcS_eq hv)
  rw [this]

/-! ### The walks -/
end Go.Proofs.Ytaflkbemecjcpaa
