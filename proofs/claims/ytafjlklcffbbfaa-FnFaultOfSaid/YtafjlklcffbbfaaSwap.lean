/- Two neighbours exchanged: contracts of slices.Clone and slices.Clip at operations, and of SwapAt, the reference's and the program's. -/
import Derived.Test.YtafjlklcffbbfaaFilt
namespace Go.Proofs.Ytafjlklcffbbfaa
set_option linter.unusedSimpArgs false
set_option linter.unusedVariables false
open Go.RowKit

/-! ### The plain side -/
def SwapP (l : List O3) (i : Int) : Prop := ValidP l ∧ ∃ k : Nat, i = k ∧ ∃ h : k + 1 < l.length, l[k].tx ≠ l[k + 1].tx ∧ conflB l[k] l[k + 1] = false
def swapL (l : List O3) (k : Nat) : List O3 := if h : k + 1 < l.length then (l.set k l[k + 1]).set (k + 1) l[k] else []
noncomputable def swapOk (l : List O3) (i : Int) : Bool := tt (SwapP l i)
noncomputable def swapV (l : List O3) (i : Int) : List O3 := if swapOk l i = true then swapL l i.toNat else []
theorem swapV_len (l : List O3) (i : Int) (hl : l.length ≤ 1048576) : (swapV l i).length ≤ 1048576 := by
  unfold swapV; split
  · unfold swapL; split <;> simp [hl]
  · simp
theorem swap_no {l : List O3} {i : Int} (h : ¬ SwapP l i) : swapOk l i = false ∧ swapV l i = [] := by
  have : swapOk l i = false := tt_false h
  exact ⟨this, by simp [swapV, this]⟩
theorem swap_yes {l : List O3} {k : Nat} (h : SwapP l k) (hk : k + 1 < l.length) : swapOk l k = true ∧ swapV l k = (l.set k l[k + 1]).set (k + 1) l[k] := by
  have : swapOk l k = true := tt_true h
  exact ⟨this, by simp [swapV, this, swapL, hk]⟩
theorem rng_of {i : Int} {n : Nat} (h : inR i 0 ((n : Int) - 2) = true) : ∃ k : Nat, i = k ∧ k + 1 < n := by
  simp only [inR, decide_eq_true_eq] at h
  exact ⟨i.toNat, by omega, by omega⟩
theorem rng_no {i : Int} {l : List O3} (h : inR i 0 ((l.length : Int) - 2) = false) : ¬ SwapP l i := by
  simp only [inR, decide_eq_false_iff_not] at h
  rintro ⟨_, k, rfl, hk, _⟩
  exact h (by omega)

/-! ### append of a whole slice -/
theorem rd_cells {w : World} {B b off : Nat} {l : List O3} (h : RdO w B (some ⟨b, off, none⟩) l) : ∀ j u, (cellsO l)[j]? = some u → w.cell? ((⟨b, off, none⟩ : Addr).add j) = some u := by
  intro j u hj
  have hlt : j < (cellsO l).length := (List.getElem?_eq_some_iff.1 hj).1
  rw [cellsO_length] at hlt
  have hk : j / 3 < l.length := by omega
  obtain ⟨b', off', e, _, h0, h1, h2⟩ := h.at_ hk
  simp only [Option.some.injEq, Addr.mk.injEq, and_true] at e
  obtain ⟨rfl, rfl⟩ := e
  obtain ⟨c0, c1, c2⟩ := cellsO_at l (j / 3) hk
  rw [addr_add]
  have h3 : j % 3 < 3 := Nat.mod_lt _ (by omega)
  match hm : j % 3, h3 with
  | 0, _ =>
    have e : j = j / 3 * 3 := by omega
    rw [e] at hj ⊢
    rw [c0] at hj; rw [h0, ← hj]
  | 1, _ =>
    have e : j = j / 3 * 3 + 1 := by omega
    rw [e] at hj ⊢
    rw [c1] at hj; rw [← Nat.add_assoc, h1, ← hj]
  | 2, _ =>
    have e : j = j / 3 * 3 + 2 := by omega
    rw [e] at hj ⊢
    rw [c2] at hj; rw [← Nat.add_assoc, h2, ← hj]
section
variable {P : Program} {ops : Array Oper} {rest : List Oper} {o : Oper} {a : Act} {Q : Exit → Act → World → Prop}
theorem wpList_app_os (W : World) (T E : TypeId) (i : TypeInfo) (hgd : o.guard = none) (s x : Operand)
    (ho : o.op = .call { callee := .builtin .append, args := #[s, x], argTypes := #[T, T] })
    (ht : P.underlying T = some (.slice E)) (hi : P.info? E = some i) (hz : i.zero = some (.agg #[.int .i64 0, .int .i64 0, .int .i64 0])) (hsize : i.size = 3) (hby : i.bytes = 24)
    (base : Nat) (v : Value) (l : List O3) (hs : a.eval s = v) (hown : AppO W base E v l)
    (B b off m c : Nat) (l2 : List O3) (hx : a.eval x = .slice (some ⟨b, off, none⟩) m c) (hm : m = l2.length) (hR : RdO W B (some ⟨b, off, none⟩) l2) (hlen : l.length + l2.length ≤ 4194304) (hbase : base ≤ W.heap.size)
    (h : ∀ A' c' w', AppO w' base E (.slice A' (l ++ l2).length c') (l ++ l2) → W.grownBy w' v.ownBlock → Below base W w' → wpList P ops Q rest (a.put o.dst (.slice A' (l ++ l2).length c')) w') :
    wpList P ops Q (o :: rest) a W := by
  subst hm
  refine wpList_append_own _ hgd s x T ho base E i _ 3 24 ht hi hz hsize hby rfl (by decide) v l.length (cellsO l) hs hown ⟨b, off, none⟩ l2.length c (cellsO l2) hx (cellsO_length _) (rd_cells hR) (cellsO_one _) ?_ ?_ hbase ?_
  · unfold maxLen; omega
  · omega
  · intro v' w' h1 h2 _
    obtain ⟨A', c', rfl, _⟩ := row_form h1
    rw [← cellsO_append] at h1
    have e : l.length + l2.length = (l ++ l2).length := by rw [List.length_append]
    rw [e] at h1 ⊢
    refine h A' c' w' h1 h2 ?_
    exact Below.grown (Below.refl _ _) h2 hbase (fun k hk => (hown.lt k hk).1)
end

/-! ### SwapAt -/
theorem own_drew {w : World} {base : Nat} {E : TypeId} {v : Value} {l : List O3} (h : OwnO w base E v l) : OwnO w.drew base E v l := OwnG.kept h (fun k _ => rfl)
theorem set_two {l : List O3} {k : Nat} (hk : k + 1 < l.length) : (l.set k l[k + 1])[k + 1]'(by simpa using hk) = l[k + 1] := by simp
end Go.Proofs.Ytafjlklcffbbfaa
