/- RunStamps: two slices that grow side by side, and the reference's walk. -/
import Derived.StillTailTactics
import Derived.Test.YtejipiadapggmaaRsA
import Derived.Test.YtejipiadapggmaaPow
import Derived.Test.YtejipiadapggmaaTxs
namespace Go.Proofs.Ytejipiadapggmaa
set_option linter.unusedSimpArgs false
set_option linter.unusedVariables false
open Go.RowKit

/-- append of one number: where the new slice lies. -/
theorem wpList_app_ia {P : Program} {ops : Array Oper} {rest : List Oper} {o : Oper} {a : Act} {Q : Exit → Act → World → Prop} (W : World) (T E : TypeId) (i : TypeInfo) (hgd : o.guard = none) (s x : Operand)
    (ho : o.op = .call { callee := .builtin .append, args := #[s, x], argTypes := #[T, T] })
    (ht : P.underlying T = some (.slice E)) (hi : P.info? E = some i) (hz : i.zero = some (.int .i64 0)) (hsize : i.size = 1) (hby : i.bytes = 8)
    (base : Nat) (v : Value) (l : List Int) (hs : a.eval s = v) (hown : AppI W base E v l)
    (p : Int) (g : Nat) (hx : a.eval x = .slice (some ⟨g, 0, none⟩) 1 1) (hgW : g = W.heap.size) (hlen : l.length ≤ 4194304) (hbase : base ≤ W.heap.size)
    (h : ∀ A' c' w', AppI w' base E (.slice A' (l.length + 1) c') (l ++ [p]) → (W.alloc (.cells #[.int .i64 p] E)).grownBy w' v.ownBlock →
      ((Value.slice A' (l.length + 1) c').ownBlock = v.ownBlock ∨ ∃ k, (Value.slice A' (l.length + 1) c').ownBlock = some k ∧ W.heap.size ≤ k) → wpList P ops Q rest (a.put o.dst (.slice A' (l.length + 1) c')) w') :
    wpList P ops Q (o :: rest) a (W.alloc (.cells #[.int .i64 p] E)) := by
  subst hgW
  refine wpList_append_own_at _ hgd s x T ho base E i _ 1 8 ht hi hz hsize hby rfl (by decide) v l.length (cellsI l) hs (hown.alloc _) ⟨W.heap.size, 0, none⟩ 1 1 (cellsI [p]) hx rfl ?_ (cellsI_one _) ?_ ?_ ?_ ?_
  · intro j u hj
    rw [addr_add, Nat.zero_add, World.cell?_alloc_new]
    simpa [cellsI] using hj
  · unfold maxLen; omega
  · omega
  · simp; omega
  · intro v' w' h1 h2 _ h4
    obtain ⟨A', c', rfl, _⟩ := row_form h1
    refine h A' c' w' (by unfold AppI; rw [List.length_append]; simpa [cellsI] using h1) h2 ?_
    rcases h4 with h4 | h4
    · exact .inl h4
    · exact .inr ⟨_, h4, by simp⟩

/-- Two slices that grow, and blocks of the call's own beside them. -/
structure Two2 (w : World) (B : Nat) (v1 v2 : Value) (done : List O3) (dead : List Int) (bs : List Nat) : Prop where
  o : AppO w B 60 v1 done
  i : AppI w B 3 v2 dead
  ne : ∀ k, v1.ownBlock = some k → v2.ownBlock ≠ some k
  off : ∀ b ∈ bs, B ≤ b ∧ b < w.heap.size ∧ v1.ownBlock ≠ some b ∧ v2.ownBlock ≠ some b
section
variable {w w' : World} {B : Nat} {v1 v2 : Value} {done : List O3} {dead : List Int} {bs : List Nat}
theorem Two2.on (h : Two2 w B v1 v2 done dead bs) (hb : Below w.heap.size w w') : Two2 w' B v1 v2 done dead bs :=
  ⟨h.o.on hb, h.i.on hb, h.ne, fun b m => ⟨(h.off b m).1, Nat.lt_of_lt_of_le (h.off b m).2.1 hb.size, (h.off b m).2.2⟩⟩
theorem Two2.far (h : Two2 w B v1 v2 done dead bs) {b : Nat} (m : b ∈ bs) (hg : w.grownBy w' (some b)) : Two2 w' B v1 v2 done dead bs :=
  ⟨World.ownsRow.kept h.o hg (.inr (h.off b m).2.2.1), World.ownsRow.kept h.i hg (.inr (h.off b m).2.2.2), h.ne, fun b m => ⟨(h.off b m).1, Nat.lt_of_lt_of_le (h.off b m).2.1 hg.size, (h.off b m).2.2⟩⟩
theorem Two2.appO (h : Two2 w B v1 v2 done dead bs) {x : Obj} {p : O3} {A' : Option Addr} {c' : Nat} (hO : AppO w' B 60 (.slice A' (done.length + 1) c') (done ++ [p])) (hg : (w.alloc x).grownBy w' v1.ownBlock)
    (hv : (Value.slice A' (done.length + 1) c').ownBlock = v1.ownBlock ∨ ∃ k, (Value.slice A' (done.length + 1) c').ownBlock = some k ∧ w.heap.size ≤ k) :
    Two2 w' B (.slice A' (done.length + 1) c') v2 (done ++ [p]) dead bs ∧ (∀ b ∈ bs, w'.heap[b]? = w.heap[b]?) ∧ (B ≤ w.heap.size → Below B w w') := by
  have hz := hg.size
  rw [World.size_alloc] at hz
  have hlt : ∀ k, v2.ownBlock = some k → k < w.heap.size := fun k hk => (h.i.lt k hk).2
  have hn : ∀ b, b < w.heap.size → v1.ownBlock ≠ some b → (Value.slice A' (done.length + 1) c').ownBlock ≠ some b := fun b hb hne => by
    rcases hv with e | ⟨k, e, hk⟩
    · rw [e]; exact hne
    · rw [e]; intro e'; cases e'; omega
  refine ⟨⟨hO, World.ownsRow.kept (h.i.alloc _) hg ?_, fun k e1 e2 => ?_, fun b m => ?_⟩, fun b m => ?_, fun hB => ?_⟩
  · cases e : v2.ownBlock with
    | none => exact .inl rfl
    | some k => exact .inr (fun e' => h.ne k e'.symm e)
  · exact hn k (hlt k e2) (fun e' => h.ne k e' e2) e1
  · obtain ⟨a1, a2, a3, a4⟩ := h.off b m
    exact ⟨a1, by omega, hn b a2 a3, a4⟩
  · obtain ⟨a1, a2, a3, a4⟩ := h.off b m
    exact (hg.block b (by simp; omega) (fun e => a3 e.symm)).trans (Below.heap_alloc _ _ _ a2)
  · exact ((Below.refl _ _).alloc hB _).grown hg (by simp; omega) (fun k hk => (h.o.lt k hk).1)
theorem Two2.appI (h : Two2 w B v1 v2 done dead bs) {x : Obj} {p : Int} {A' : Option Addr} {c' : Nat} (hI : AppI w' B 3 (.slice A' (dead.length + 1) c') (dead ++ [p])) (hg : (w.alloc x).grownBy w' v2.ownBlock)
    (hv : (Value.slice A' (dead.length + 1) c').ownBlock = v2.ownBlock ∨ ∃ k, (Value.slice A' (dead.length + 1) c').ownBlock = some k ∧ w.heap.size ≤ k) :
    Two2 w' B v1 (.slice A' (dead.length + 1) c') done (dead ++ [p]) bs ∧ (∀ b ∈ bs, w'.heap[b]? = w.heap[b]?) ∧ (B ≤ w.heap.size → Below B w w') := by
  have hz := hg.size
  rw [World.size_alloc] at hz
  have hlt : ∀ k, v1.ownBlock = some k → k < w.heap.size := fun k hk => (h.o.lt k hk).2
  have hn : ∀ b, b < w.heap.size → v2.ownBlock ≠ some b → (Value.slice A' (dead.length + 1) c').ownBlock ≠ some b := fun b hb hne => by
    rcases hv with e | ⟨k, e, hk⟩
    · rw [e]; exact hne
    · rw [e]; intro e'; cases e'; omega
  refine ⟨⟨World.ownsRow.kept (h.o.alloc _) hg ?_, hI, fun k e1 e2 => ?_, fun b m => ?_⟩, fun b m => ?_, fun hB => ?_⟩
  · cases e : v1.ownBlock with
    | none => exact .inl rfl
    | some k => exact .inr (fun e' => h.ne k e e'.symm)
  · exact hn k (hlt k e1) (h.ne k e1) e2
  · obtain ⟨a1, a2, a3, a4⟩ := h.off b m
    exact ⟨a1, by omega, a3, hn b a2 a4⟩
  · obtain ⟨a1, a2, a3, a4⟩ := h.off b m
    exact (hg.block b (by simp; omega) (fun e => a4 e.symm)).trans (Below.heap_alloc _ _ _ a2)
  · exact ((Below.refl _ _).alloc hB _).grown hg (by simp; omega) (fun k hk => (h.i.lt k hk).1)
theorem Two2.sub (h : Two2 w B v1 v2 done dead bs) {bs' : List Nat} (hs : ∀ b ∈ bs', b ∈ bs) : Two2 w B v1 v2 done dead bs' := ⟨h.o, h.i, h.ne, fun b m => h.off b (hs b m)⟩
theorem Two2.more (h : Two2 w B v1 v2 done dead bs) (hb : Below w.heap.size w w') (hB : B ≤ w.heap.size) {b : Nat} (h1 : w.heap.size ≤ b) (h2 : b < w'.heap.size) : Two2 w' B v1 v2 done dead (b :: bs) := by
  refine ⟨(h.on hb).o, (h.on hb).i, h.ne, fun b' m => ?_⟩
  rcases List.mem_cons.1 m with rfl | m
  · refine ⟨by omega, h2, fun e => ?_, fun e => ?_⟩
    · have := (h.o.lt _ e).2; omega
    · have := (h.i.lt _ e).2; omega
  · exact (h.on hb).off b' m
theorem Two2.drew (h : Two2 w B v1 v2 done dead bs) : Two2 w.drew B v1 v2 done dead bs := ⟨h.o, h.i, h.ne, h.off⟩
end
/-- Three numbers in a block. -/
def Tb3 (w : World) (b : Nat) (f : Int → Int) : Prop := Bx3 w b 3 (f 0) (f 1) (f 2)
section
variable {w w' : World} {b : Nat} {f : Int → Int}
theorem Tb3.same (h : Tb3 w b f) (e : w'.heap[b]? = w.heap[b]?) : Tb3 w' b f := e.trans h
theorem Tb3.on (h : Tb3 w b f) (hb : Below w.heap.size w w') : Tb3 w' b f := Bx3.be h hb
theorem Tb3.c (h : Tb3 w b f) {n : Nat} (hn : n < 3) : w.cell? ⟨b, n, none⟩ = some (.int .i64 (f n)) := by
  obtain ⟨_, a0, a1, a2, _⟩ := Bx3.at_ h
  match n, hn with
  | 0, _ => exact a0
  | 1, _ => exact a1
  | 2, _ => exact a2
theorem Tb3.fz (h : Tb3 w b f) (n : Nat) : w.frozen? ⟨b, n, none⟩ = false := frozen_of_row w b n _ _ h
theorem Tb3.lt (h : Tb3 w b f) : b < w.heap.size := lt_of_block h
theorem Tb3.set (h : Tb3 w b f) {n : Nat} (hn : n < 3) (v : Int) : Tb3 (w.setCell ⟨b, n, none⟩ (.int .i64 v)) b (up1 f n v) := by
  unfold Tb3 Bx3
  rw [heap_setCell_same w b n _ _ _ h]
  match n, hn with
  | 0, _ => simp [up1]
  | 1, _ => simp [up1]
  | 2, _ => simp [up1]
theorem Tb3.drew (h : Tb3 w b f) : Tb3 w.drew b f := h
end
end Go.Proofs.Ytejipiadapggmaa
