/- RunStamps: the plain side. -/
import Derived.Test.YtejipiadapggmaaLkM
import Derived.Test.YtejipiadapggmaaTxs
namespace Go.Proofs.Ytejipiadapggmaa
set_option linter.unusedSimpArgs false
set_option linter.unusedVariables false

/-- What a run by stamps holds: what is done, who is aborted, the items' greatest stamps of reads and writes. -/
structure RsS where
  done : List O3
  dead : List Int
  rd : Int → Int
  wr : Int → Int
def up1 (f : Int → Int) (n v : Int) : Int → Int := fun m => if m = n then v else f m
/-- The outcome of an access: 0 allowed, 1 passed, 2 refused. -/
def rsOut (skip : Bool) (rd wr : Int → Int) (o : O3) (at_ : Int) : Int :=
  if accB o = false then 0
  else if o.kind = 0 then (if at_ < wr o.item then 2 else 0)
  else if at_ < rd o.item then 2
  else if at_ < wr o.item then (if skip = true then 1 else 2) else 0
def rsRd (skip : Bool) (rd wr : Int → Int) (o : O3) (at_ : Int) : Int → Int :=
  if accB o = true ∧ o.kind = 0 ∧ ¬ at_ < wr o.item then up1 rd o.item (if rd o.item < at_ then at_ else rd o.item) else rd
def rsWr (skip : Bool) (rd wr : Int → Int) (o : O3) (at_ : Int) : Int → Int :=
  if accB o = true ∧ o.kind ≠ 0 ∧ ¬ at_ < rd o.item ∧ ¬ at_ < wr o.item then up1 wr o.item at_ else wr
def rsStep (l : List O3) (skip : Bool) (s : RsS) (o : O3) : RsS :=
  if s.dead.contains o.tx = true then s
  else
    let a : Int := (firstOf l o.tx : Nat)
    let r := rsOut skip s.rd s.wr o a
    ⟨if r = 0 then s.done ++ [o] else if r = 2 then s.done ++ [⟨o.tx, 3, 0⟩] else s.done, if r = 2 then s.dead ++ [o.tx] else s.dead, rsRd skip s.rd s.wr o a, rsWr skip s.rd s.wr o a⟩
def rsTo (l : List O3) (skip : Bool) (k : Nat) : RsS := (l.take k).foldl (rsStep l skip) ⟨[], [], fun _ => -1, fun _ => -1⟩
theorem rsTo_zero (l : List O3) (skip : Bool) : rsTo l skip 0 = ⟨[], [], fun _ => -1, fun _ => -1⟩ := rfl
theorem rsTo_succ {l : List O3} {skip : Bool} {k : Nat} (hk : k < l.length) : rsTo l skip (k + 1) = rsStep l skip (rsTo l skip k) l[k] := by
  unfold rsTo
  rw [List.take_succ_eq_append_getElem hk, List.foldl_append]
  rfl
theorem rsStep_le (l : List O3) (skip : Bool) (s : RsS) (o : O3) : (rsStep l skip s o).done.length ≤ s.done.length + 1 ∧ (rsStep l skip s o).dead.length ≤ s.dead.length + 1 := by
  unfold rsStep
  split
  · exact ⟨by omega, by omega⟩
  · dsimp only
    refine ⟨?_, ?_⟩
    · split
      · simp
      · split <;> simp
    · split <;> simp
theorem rsTo_le {l : List O3} {skip : Bool} : ∀ k, k ≤ l.length → (rsTo l skip k).done.length ≤ k ∧ (rsTo l skip k).dead.length ≤ k
  | 0, _ => ⟨Nat.le_refl _, Nat.le_refl _⟩
  | k + 1, h => by
    have ih := rsTo_le (l := l) (skip := skip) k (by omega)
    rw [rsTo_succ (by omega)]
    have := rsStep_le l skip (rsTo l skip k) l[k]
    omega
/-- RunStamps's two values. -/
noncomputable def rsD (l : List O3) (skip : Bool) : List O3 := if lkOk l = true then (rsTo l skip l.length).done else []
noncomputable def rsX (l : List O3) (skip : Bool) : List Int := if lkOk l = true then (rsTo l skip l.length).dead else []
theorem rsD_len (l : List O3) (skip : Bool) (hl : l.length ≤ 1048576) : (rsD l skip).length ≤ 1048576 := by
  unfold rsD; split
  · have := (rsTo_le (l := l) (skip := skip) l.length (Nat.le_refl _)).1; omega
  · simp
theorem rsX_len (l : List O3) (skip : Bool) (hl : l.length ≤ 1048576) : (rsX l skip).length ≤ 1048576 := by
  unfold rsX; split
  · have := (rsTo_le (l := l) (skip := skip) l.length (Nat.le_refl _)).2; omega
  · simp
end Go.Proofs.Ytejipiadapggmaa
