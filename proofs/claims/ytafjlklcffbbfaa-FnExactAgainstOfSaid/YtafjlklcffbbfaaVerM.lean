/- Who commits on snapshots, whose version a read reads, who writes what was read: the plain side. -/
import Derived.Test.YtafjlklcffbbfaaReads
import Derived.Test.YtafjlklcffbbfaaBlind
namespace Go.Proofs.Ytafjlklcffbbfaa
set_option linter.unusedSimpArgs false
set_option linter.unusedVariables false

/-- The place of the commit of a transaction, or the length. -/
def comAt (l : List O3) (t : Int) : Nat := (l.findIdx? fun o => o.tx == t && o.kind == 2).getD l.length
/-- Of the first i operations one is of this transaction and kind, on this item. -/
def tchB (l : List O3) (i : Nat) (t kd x : Int) : Bool := (l.take i).any fun o => o.tx == t && (o.kind == kd && o.item == x)
/-- Two transactions write one of the first n items. -/
def meetTo (l : List O3) (t u : Int) : Nat → Bool
  | 0 => false
  | n + 1 => meetTo l t u n || (tchB l l.length t 1 n && tchB l l.length u 1 n)
def okB (l : List O3) (u t : Int) : Bool := decide (comAt l u < firstOf l t) || !meetTo l t u 3
def survTo (l : List O3) : Nat → List Int
  | 0 => []
  | k + 1 => if h : k < l.length then (if (l[k].kind == 2 && (survTo l k).all (fun u => okB l u l[k].tx)) = true then survTo l k ++ [l[k].tx] else survTo l k) else survTo l k
theorem surv_yes {l : List O3} {k : Nat} (hk : k < l.length) (h : (l[k].kind == 2 && (survTo l k).all (fun u => okB l u l[k].tx)) = true) : survTo l (k + 1) = survTo l k ++ [l[k].tx] := by
  rw [survTo, dif_pos hk, if_pos h]
theorem surv_no {l : List O3} {k : Nat} (hk : k < l.length) (h : (l[k].kind == 2 && (survTo l k).all (fun u => okB l u l[k].tx)) = false) : survTo l (k + 1) = survTo l k := by
  rw [survTo, dif_pos hk, if_neg (by rw [h]; simp)]
theorem surv_le (l : List O3) (k : Nat) : (survTo l k).length ≤ k := by
  induction k with
  | zero => simp [survTo]
  | succ k ih => unfold survTo; split <;> (try split) <;> (try simp) <;> omega
theorem surv_mem {l : List O3} {u : Int} : ∀ {k : Nat}, u ∈ survTo l k → ∃ j, ∃ h : j < l.length, j < k ∧ l[j].tx = u ∧ l[j].kind = 2 := by
  intro k
  induction k with
  | zero => intro h; simp [survTo] at h
  | succ k ih =>
    intro h
    by_cases hk : k < l.length
    · cases hc : (l[k].kind == 2 && (survTo l k).all (fun u => okB l u l[k].tx))
      · rw [surv_no hk hc] at h
        obtain ⟨j, hj, hjk, r⟩ := ih h
        exact ⟨j, hj, by omega, r⟩
      · rw [surv_yes hk hc] at h
        rcases List.mem_append.1 h with h | h
        · obtain ⟨j, hj, hjk, r⟩ := ih h
          exact ⟨j, hj, by omega, r⟩
        · simp at h
          simp at hc
          exact ⟨k, hk, by omega, h.symm, hc.1⟩
    · have : survTo l (k + 1) = survTo l k := by rw [survTo, dif_neg hk]
      rw [this] at h
      obtain ⟨j, hj, hjk, r⟩ := ih h
      exact ⟨j, hj, by omega, r⟩
def survL (l : List O3) : List Int := survTo l l.length
noncomputable def survV (l : List O3) : List Int := if tt (ValidP l) = true then survL l else []
theorem survL_le (l : List O3) : (survL l).length ≤ l.length := surv_le l _
theorem survV_len (l : List O3) (hl : l.length ≤ 1048576) : (survV l).length ≤ 1048576 := by
  unfold survV; split
  · have := survL_le l; omega
  · simp
/-- the commit of one that commits -/
theorem comAt_spec {l : List O3} {u : Int} (h : ∃ j, ∃ hj : j < l.length, l[j].tx = u ∧ l[j].kind = 2) : ∃ h : comAt l u < l.length, l[comAt l u].tx = u ∧ l[comAt l u].kind = 2 ∧ l.findIdx? (fun o => o.tx == u && o.kind == 2) = some (comAt l u) := by
  obtain ⟨j, hj, h1, h2⟩ := h
  cases hf : l.findIdx? (fun o => o.tx == u && o.kind == 2) with
  | none =>
    have := List.findIdx?_eq_none_iff.1 hf l[j] (List.getElem_mem hj)
    simp [h1, h2] at this
  | some i =>
    obtain ⟨h3, h4, _⟩ := List.findIdx?_eq_some_iff_getElem.1 hf
    have e : comAt l u = i := by unfold comAt; rw [hf]; rfl
    simp at h4
    rw [e]
    exact ⟨h3, h4.1, h4.2, rfl⟩
theorem firstOf_spec {l : List O3} {k : Nat} (hk : k < l.length) : ∃ h : firstOf l l[k].tx < l.length, l[firstOf l l[k].tx].tx = l[k].tx ∧ l.findIdx? (fun o => o.tx == l[k].tx) = some (firstOf l l[k].tx) := by
  cases hf : l.findIdx? (fun o => o.tx == l[k].tx) with
  | none =>
    have := List.findIdx?_eq_none_iff.1 hf l[k] (List.getElem_mem hk)
    simp at this
  | some i =>
    obtain ⟨h3, h4, _⟩ := List.findIdx?_eq_some_iff_getElem.1 hf
    have e : firstOf l l[k].tx = i := by unfold firstOf; rw [hf]; rfl
    rw [e]
    exact ⟨h3, by simpa using h4, rfl⟩
theorem one_commit {l : List O3} (hv : ValidP l) {i j : Nat} (hi : i < l.length) (hj : j < l.length) (h : i < j) (ht : l[i].tx = l[j].tx) : l[i].kind ≠ 2 := fun e =>
  (hv.2 j hj).2.2 i hi h ⟨ht, by simp [endB, e]⟩
/-- the commit of one ahead is no first operation of another -/
theorem com_ne_first {l : List O3} (hv : ValidP l) {k : Nat} (hk : k < l.length) {u : Int} (hu : u ∈ survTo l k) (h2 : l[k].kind = 2) : comAt l u ≠ firstOf l l[k].tx := by
  obtain ⟨j, hj, hjk, h3, h4⟩ := surv_mem hu
  obtain ⟨h5, h6, h7, _⟩ := comAt_spec ⟨j, hj, h3, h4⟩
  obtain ⟨h8, h9, _⟩ := firstOf_spec hk
  intro e
  have e1 : l[comAt l u].tx = l[firstOf l l[k].tx].tx := by simp only [e]
  rw [h6, h9] at e1
  exact one_commit hv hj hk hjk (h3.trans e1) h4
theorem against_ok {l : List O3} (hv : ValidP l) {k : Nat} (hk : k < l.length) {u : Int} (hu : u ∈ survTo l k) (h2 : l[k].kind = 2) : (decide (firstOf l l[k].tx < comAt l u) && meetTo l l[k].tx u 3) = !okB l u l[k].tx := by
  have := com_ne_first hv hk hu h2
  unfold okB
  cases meetTo l l[k].tx u 3
  · simp
  · by_cases h : comAt l u < firstOf l l[k].tx
    · have h1 : ¬ firstOf l l[k].tx < comAt l u := by omega
      simp [h, h1]
    · have h1 : firstOf l l[k].tx < comAt l u := by omega
      simp [h, h1]

/-! ### Versions -/
def lastTo (p : Int → Bool) (L : List Int) : Nat → Int
  | 0 => -1
  | n + 1 => if h : n < L.length then (if p L[n] then L[n] else lastTo p L n) else lastTo p L n
theorem last_yes {p : Int → Bool} {L : List Int} {n : Nat} (hn : n < L.length) (h : p L[n] = true) : lastTo p L (n + 1) = L[n] := by rw [lastTo, dif_pos hn, if_pos h]
theorem last_no {p : Int → Bool} {L : List Int} {n : Nat} (hn : n < L.length) (h : p L[n] = false) : lastTo p L (n + 1) = lastTo p L n := by rw [lastTo, dif_pos hn, if_neg (by simp [h])]
def txAt (l : List O3) (i : Nat) : Int := if h : i < l.length then l[i].tx else 0
theorem txAt_eq {l : List O3} {i : Nat} (h : i < l.length) : txAt l i = l[i].tx := by simp [txAt, h]
def seenB (l : List O3) (i : Nat) (u : Int) : Bool := decide (comAt l u < firstOf l (txAt l i)) && tchB l l.length u 1 (itemAt l i)
def verAt (l : List O3) (i : Nat) : Int := if tchB l i (txAt l i) 1 (itemAt l i) = true then txAt l i else lastTo (seenB l i) (survL l) (survL l).length
noncomputable def verV (l : List O3) : List Int := if tt (ValidP l) = true then readsTo (verAt l) l l.length else []
theorem verV_len (l : List O3) (hl : l.length ≤ 1048576) : (verV l).length ≤ 1048576 := by
  unfold verV; split
  · have := readsTo_le (verAt l) l l.length; omega
  · simp
end Go.Proofs.Ytafjlklcffbbfaa
