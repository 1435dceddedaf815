/- Schedules in which all transactions end: contracts of Completed, the reference's and the program's. -/
import Derived.Laws.AppendOwnNone
import Derived.Maps.AppendAt
import Derived.Test.YtajmhgekmjhoaaaPl
import Derived.Test.YtajmhgekmjhoaaaSwap
namespace Go.Proofs.Ytajmhgekmjhoaaa
set_option linter.unusedSimpArgs false
set_option linter.unusedVariables false
open Go.RowKit

/-- A slice's address is none (and it has no room) or stands in a row. -/
def AddrOk (A : Option Addr) (c : Nat) : Prop := (A = none ∧ c = 0) ∨ ∃ b off, A = some ⟨b, off, none⟩
theorem OwnG.addr {w : World} {base n c k : Nat} {A : Option Addr} {E : TypeId} {xs : List Value} (h : OwnG w base E (.slice A n c) k xs) : AddrOk A c := by
  rcases h with ⟨e, _⟩ | ⟨g, cap, cur, e, _⟩
  · injection e with e1 e2 e3; exact .inl ⟨e1, e3⟩
  · injection e with e1 e2 e3; exact .inr ⟨g, 0, e1⟩
section
variable {P : Program} {ops : Array Oper} {rest : List Oper} {o : Oper} {a : Act} {Q : Exit → Act → World → Prop}
theorem wpList_app_x (W : World) (T E : TypeId) (i : TypeInfo) (hgd : o.guard = none) (s x : Operand)
    (ho : o.op = .call { callee := .builtin .append, args := #[s, x], argTypes := #[T, T] })
    (ht : P.underlying T = some (.slice E)) (hi : P.info? E = some i) (hz : i.zero = some (.agg #[.int .i64 0, .int .i64 0, .int .i64 0])) (hsize : i.size = 3) (hby : i.bytes = 24)
    (base : Nat) (v : Value) (l : List O3) (hs : a.eval s = v) (hown : AppO W base E v l)
    (B : Nat) (A : Option Addr) (m c : Nat) (l2 : List O3) (hA : AddrOk A c) (hx : a.eval x = .slice A m c) (hm : m = l2.length) (hR : RdO W B A l2) (hlen : l.length + l2.length ≤ 4194304) (hbase : base ≤ W.heap.size)
    (h : ∀ A' c' w', AppO w' base E (.slice A' (l ++ l2).length c') (l ++ l2) → W.grownBy w' v.ownBlock → Below base W w' → wpList P ops Q rest (a.put o.dst (.slice A' (l ++ l2).length c')) w') :
    wpList P ops Q (o :: rest) a W := by
  rcases hA with ⟨rfl, rfl⟩ | ⟨b, off, rfl⟩
  · have h2 : l2 = [] := by
      rcases l2 with _ | ⟨p, q⟩
      · rfl
      · obtain ⟨b, off, e, _⟩ := hR (by simp)
        cases e
    subst h2
    simp at hm
    subst hm
    obtain ⟨A0, c0, rfl, _⟩ := row_form hown
    refine wpList_append_own_none hgd s x T ho base E i 3 ht hi _ l.length (cellsO l) hs hown hx ?_
    have h3 := h A0 c0 W (by simpa using hown) (World.grownBy.refl _ _) (Below.refl _ _)
    simpa using h3
  · exact wpList_app_os W T E i hgd s x ho ht hi hz hsize hby base v l hs hown B b off m c l2 hx hm hR hlen hbase h
theorem wpList_app_oo (W : World) (T E : TypeId) (i : TypeInfo) (hgd : o.guard = none) (s x : Operand)
    (ho : o.op = .call { callee := .builtin .append, args := #[s, x], argTypes := #[T, T] })
    (ht : P.underlying T = some (.slice E)) (hi : P.info? E = some i) (hz : i.zero = some (.agg #[.int .i64 0, .int .i64 0, .int .i64 0])) (hsize : i.size = 3) (hby : i.bytes = 24)
    (base : Nat) (v : Value) (l : List O3) (hs : a.eval s = v) (hown : AppO W base E v l)
    (p : O3) (g : Nat) (hx : a.eval x = .slice (some ⟨g, 0, none⟩) 1 1) (hgW : g = W.heap.size) (hlen : l.length ≤ 4194304) (hbase : base ≤ W.heap.size)
    (h : ∀ A' c' w', AppO w' base E (.slice A' (l.length + 1) c') (l ++ [p]) → (W.alloc (.cells #[.int .i64 p.tx, .int .i64 p.kind, .int .i64 p.item] E)).grownBy w' v.ownBlock →
      ((Value.slice A' (l.length + 1) c').ownBlock = v.ownBlock ∨ ∃ k, (Value.slice A' (l.length + 1) c').ownBlock = some k ∧ W.heap.size ≤ k) → Below base W w' → wpList P ops Q rest (a.put o.dst (.slice A' (l.length + 1) c')) w') :
    wpList P ops Q (o :: rest) a (W.alloc (.cells #[.int .i64 p.tx, .int .i64 p.kind, .int .i64 p.item] E)) := by
  subst hgW
  refine wpList_append_own_at _ hgd s x T ho base E i _ 3 24 ht hi hz hsize hby rfl (by decide) v l.length (cellsO l) hs (hown.alloc _) ⟨W.heap.size, 0, none⟩ 1 1 (cellsO [p]) hx rfl ?_ (cellsO_one _) ?_ ?_ ?_ ?_
  · intro j u hj
    rw [addr_add, Nat.zero_add, World.cell?_alloc_new]
    simpa [cellsO] using hj
  · unfold maxLen; omega
  · omega
  · simp; omega
  · intro v' w' h1 h2 _ h4
    obtain ⟨A', c', rfl, _⟩ := row_form h1
    refine h A' c' w' (by unfold AppO; rw [List.length_append, cellsO_append]; exact h1) h2 ?_ ?_
    · rcases h4 with h4 | h4
      · exact .inl h4
      · exact .inr ⟨_, h4, by simp⟩
    · exact Below.grown ((Below.refl _ _).alloc hbase _) h2 (by simp; omega) (fun k hk => (hown.lt k hk).1)
end

/-! ### The plain side -/
def cplTo (l : List O3) (k : Nat) : List O3 := l ++ (((txsL l).take k).filter fun t => endL l t == -1).map fun t => ⟨t, 2, 0⟩
theorem cplTo_yes {l : List O3} {k : Nat} (hk : k < (txsL l).length) (h : (endL l (txsL l)[k] == -1) = true) : cplTo l (k + 1) = cplTo l k ++ [⟨(txsL l)[k], 2, 0⟩] := by
  unfold cplTo
  rw [filter_take_yes hk h, List.map_append, List.append_assoc]; rfl
theorem cplTo_no {l : List O3} {k : Nat} (hk : k < (txsL l).length) (h : (endL l (txsL l)[k] == -1) = false) : cplTo l (k + 1) = cplTo l k := by
  unfold cplTo
  rw [filter_take_no hk h]
theorem cplTo_all (l : List O3) : cplTo l (txsL l).length = cplL l := by unfold cplTo cplL cpls; rw [List.take_length]
theorem cplTo_le (l : List O3) (k : Nat) : (cplTo l k).length ≤ l.length + 4 := by
  unfold cplTo
  rw [List.length_append, List.length_map]
  have := filter_take_le (fun t => endL l t == -1) (txsL l) k
  have := txs_le4 l
  omega
theorem cplTo_0 (l : List O3) : cplTo l 0 = l := by simp [cplTo]
noncomputable def cplOk (l : List O3) : Bool := tt (ValidP l) && decide ((cplL l).length ≤ 16)
noncomputable def cplV (l : List O3) : List O3 := if cplOk l = true then cplL l else []
theorem cplV_len (l : List O3) (hl : l.length ≤ 1048576) : (cplV l).length ≤ 1048576 := by
  unfold cplV
  split
  · rename_i h
    simp [cplOk] at h
    omega
  · simp

/-! ### The walks -/
end Go.Proofs.Ytajmhgekmjhoaaa
