/- Small laws on worlds: what a call leaves of what was there. -/
import Derived.WalkKit
import Derived.WalkSpells
import Derived.WalkLawsBesides
import Derived.Handy
import Derived.Deep.QuietTactic
import Derived.BigQuiet
import Derived.ProofKit
import Derived.Lib.Hide
import Derived.OpenShut
import Derived.ShutString
import Derived.ChangeOld
import Derived.Deep.Slices
import Derived.Lib.SmallJoins
import Derived.Test.YtaflkbemecjcpaaModel
namespace Go.Proofs.Ytaflkbemecjcpaa
set_option linter.unusedSimpArgs false
set_option linter.unusedVariables false
open Go.RowKit

theorem ret_bool {a b : Bool} (h : a = b) : Ending.returned (.bool a) = .returned (.bool b) := by rw [h]
theorem ret_int {a b : Int} (h : a = b) : Ending.returned (.int .i64 a) = .returned (.int .i64 b) := by rw [h]

section
variable {a W w1 : World}
/-- What a call that made memory leaves of what was there: cells, marks, and that a block's number is still one. -/
theorem bcell (hb : Below W.heap.size W w1) : (∀ b o, b < W.heap.size → w1.cell? ⟨b, o, none⟩ = W.cell? ⟨b, o, none⟩) ∧ (∀ b o, b < W.heap.size → w1.frozen? ⟨b, o, none⟩ = W.frozen? ⟨b, o, none⟩) ∧ (∀ b, b < W.heap.size → (b < w1.heap.size) = True) :=
  ⟨fun b o h => hb.cell (p := ⟨b, o, none⟩) h, fun b o h => hb.frozen (p := ⟨b, o, none⟩) h, fun b h => by have := hb.size; simp; omega⟩
theorem Below.via (hb : Below W.heap.size W w1) (h : Below a.heap.size a W) : Below a.heap.size a w1 := h.trans (hb.mono h.size)
theorem Below.al (h : Below a.heap.size a W) (o : Obj) : Below a.heap.size a (W.alloc o) := h.alloc h.size o
theorem Below.drN (h : Below a.heap.size a W) (n : Nat) : Below a.heap.size a (W.drewN n) := h.trans ⟨rfl, rfl, rfl, Nat.le_refl _, fun _ _ => rfl⟩
theorem Below.setc (h : Below a.heap.size a W) {p : Addr} (hp : a.heap.size ≤ p.block) (u : Value) : Below a.heap.size a (W.setCell p u) := h.setCell hp u
end

/-! ### Regions that draw their order, whose operations read and whose callees read or make memory of their own: one walk in the order of the text. -/
/-- A world after w in which w's blocks are as they were. -/
structure After (w : World) where
  now : World
  below : Below w.heap.size w now
instance (w : World) : Nonempty (After w) := ⟨⟨w, Below.refl _ _⟩⟩
section
variable {P : Program} {w : World}
@[go_sem] theorem After.cell (x : After w) {b o : Nat} (h : b < w.heap.size) : x.now.cell? ⟨b, o, none⟩ = w.cell? ⟨b, o, none⟩ := x.below.cell (p := ⟨b, o, none⟩) h
@[go_sem] theorem After.frozen (x : After w) {b o : Nat} (h : b < w.heap.size) : x.now.frozen? ⟨b, o, none⟩ = w.frozen? ⟨b, o, none⟩ := x.below.frozen (p := ⟨b, o, none⟩) h
theorem wp_region_aft {id : Nat} {Q : Exit → Act → World → Prop} {a : Act} {l : List Oper} (hm : P.follows .mixedOrders = true) (hB : Region.lexB .any l.toArray = true)
    (h : wpQuiet P l.toArray (fun w' => ∃ x : After w, w' = x.now) (fun a' => ∀ w', (∃ x : After w, w' = x.now) → Q .normal a' w') l a) : (Code.region id l.toArray true).wp P Q a w :=
  wp_region_quiet (C := fun w' => ∃ x : After w, w' = x.now) hm hB ⟨⟨{ w with drawn := w.drawn + 1 }, ⟨rfl, rfl, rfl, Nat.le_refl _, fun _ _ => rfl⟩⟩, rfl⟩ (by simpa using h)
/-- The same from a world w1 that came of w. -/
theorem wp_region_from {w1 : World} {id : Nat} {Q : Exit → Act → World → Prop} {a : Act} {l : List Oper} (hb : Below w.heap.size w w1) (hm : P.follows .mixedOrders = true) (hB : Region.lexB .any l.toArray = true)
    (h : wpQuiet P l.toArray (fun w' => ∃ x : After w, w' = x.now) (fun a' => ∀ w', (∃ x : After w, w' = x.now) → Q .normal a' w') l a) : (Code.region id l.toArray true).wp P Q a w1 :=
  wp_region_quiet (C := fun w' => ∃ x : After w, w' = x.now) hm hB ⟨⟨{ w1 with drawn := w1.drawn + 1 }, hb.trans ⟨rfl, rfl, rfl, Nat.le_refl _, fun _ _ => rfl⟩⟩, rfl⟩ (by simpa using h)
section
variable {f : FuncId} {args : Array Value} {v : Value} {x : After w}
theorem aft (h : Calls P f args x.now fun e w' => e = .returned v ∧ Below x.now.heap.size x.now w') : Calls P f args x.now fun e w'' => e = .returned v ∧ ∃ y : After w, w'' = y.now :=
  h.mono fun _ w'' ⟨he, hb⟩ => ⟨he, ⟨w'', Below.via hb x.below⟩, rfl⟩
theorem aft_same (h : Calls P f args x.now fun e w' => e = .returned v ∧ x.now = w') : Calls P f args x.now fun e w'' => e = .returned v ∧ ∃ y : After w, w'' = y.now :=
  h.mono fun _ w'' ⟨he, hb⟩ => ⟨he, x, hb.symm⟩
theorem aftb {b b' : Bool} (h : Calls P f args x.now fun e w' => e = .returned (.bool b) ∧ Below x.now.heap.size x.now w') (hb : b = b') : Calls P f args x.now fun e w'' => e = .returned (.bool b') ∧ ∃ y : After w, w'' = y.now := by
  subst hb; exact aft h
theorem aftb_same {b b' : Bool} (h : Calls P f args x.now fun e w' => e = .returned (.bool b) ∧ x.now = w') (hb : b = b') : Calls P f args x.now fun e w'' => e = .returned (.bool b') ∧ ∃ y : After w, w'' = y.now := by
  subst hb; exact aft_same h
end
end

/-! ### A slice that reads as a list of operations. -/
/-- The slice at A reads as l, below block B. -/
def RdO (w : World) (B : Nat) (A : Option Addr) (l : List O3) : Prop :=
  l ≠ [] → ∃ b off, A = some ⟨b, off, none⟩ ∧ b < B ∧ ∀ k (h : k < l.length), w.cell? ⟨b, off + k * 3, none⟩ = some (.int .i64 l[k].tx) ∧ w.cell? ⟨b, off + k * 3 + 1, none⟩ = some (.int .i64 l[k].kind) ∧ w.cell? ⟨b, off + k * 3 + 2, none⟩ = some (.int .i64 l[k].item)
section
variable {w w' : World} {B : Nat} {A : Option Addr} {l : List O3}
theorem RdO.nil : RdO w B A [] := fun h => absurd rfl h
theorem RdO.at_ (h : RdO w B A l) {k : Nat} (hk : k < l.length) : ∃ b off, A = some ⟨b, off, none⟩ ∧ b < B ∧ w.cell? ⟨b, off + k * 3, none⟩ = some (.int .i64 l[k].tx) ∧ w.cell? ⟨b, off + k * 3 + 1, none⟩ = some (.int .i64 l[k].kind) ∧ w.cell? ⟨b, off + k * 3 + 2, none⟩ = some (.int .i64 l[k].item) := by
  obtain ⟨b, off, hA, hb, hc⟩ := h (fun e => by simp [e] at hk)
  exact ⟨b, off, hA, hb, hc k hk⟩
theorem RdO.keep (h : RdO w B A l) (hk : ∀ p : Addr, p.block < B → w'.cell? p = w.cell? p) : RdO w' B A l := fun hl => by
  obtain ⟨b, off, hA, hb, hc⟩ := h hl
  refine ⟨b, off, hA, hb, fun k hk' => ?_⟩
  rw [hk _ hb, hk _ hb, hk _ hb]
  exact hc k hk'
theorem RdO.below {B' : Nat} (h : RdO w B A l) (hb : Below B' w w') (hB : B ≤ B') : RdO w' B A l := h.keep fun _ hp => hb.cell (by omega)
theorem RdO.more {B' : Nat} (h : RdO w B A l) (hB : B ≤ B') : RdO w B' A l := fun hl => by
  obtain ⟨b, off, hA, hb, hc⟩ := h hl
  exact ⟨b, off, hA, by omega, hc⟩
theorem RdO.alloc (h : RdO w B A l) (hB : B ≤ w.heap.size) (o : Obj) : RdO (w.alloc o) B A l := h.keep fun p hp => World.cell?_alloc_lt w o p (by omega)
/-- in a world that came of w -/
theorem RdO.on (h : RdO w w.heap.size A l) (hb : Below w.heap.size w w') : RdO w' w'.heap.size A l := (h.below hb (Nat.le_refl _)).more hb.size
end

/-! ### The arguments of a law: a slice of structs of three numbers; such a struct by value. -/
theorem addr_add (b off n : Nat) : (⟨b, off, none⟩ : Addr).add n = ⟨b, off + n, none⟩ := by unfold Addr.add; split <;> simp_all
theorem list_of {α : Type} {Q : Nat → α → Prop} : ∀ n, (∀ i, i < n → ∃ x, Q i x) → ∃ l : List α, l.length = n ∧ ∀ i (h : i < l.length), Q i l[i]
  | 0, _ => ⟨[], rfl, fun i h => by simp at h⟩
  | n + 1, h => by
    obtain ⟨l, hl, hq⟩ := list_of n (fun i hi => h i (by omega))
    obtain ⟨x, hx⟩ := h n (by omega)
    refine ⟨l ++ [x], by simp [hl], fun i hi => ?_⟩
    simp only [List.length_append, List.length_singleton] at hi
    by_cases h' : i < l.length
    · rw [List.getElem_append_left h']; exact hq i h'
    · have e : i = n := by omega
      subst e
      rw [List.getElem_append_right (by omega)]
      simpa using hx
section
open Go.ChangeShapes Go.WideShapes Go.Deep Go.Joins
variable {H : Type} {enc : TypeId × Value → H} {P : Program} {w : World} {base : Nat} {spare : Nat → Bool} {held : Bool}
theorem open_ops {t e : TypeId} {f0 f1 f2 : Field} {v : Value} {d : DataW H} {p : List MemPlace} {r : Reach} {b0 : Nat} (ht : P.underlying t = some (.slice e)) (he : P.underlying e = some (.struct #[f0, f1, f2]))
    (hone : oneCellFields P #[f0, f1, f2] = true) (hC : P.cellsOf e = 3) (h0 : P.underlying f0.type = some (.int .i64)) (h1 : P.underlying f1.type = some (.int .i64)) (h2 : P.underlying f2.type = some (.int .i64))
    (hv : Value.okWide P w r b0 t v) (h : DataW.Trod enc P w base spare held t v d p) :
    ∃ (A : Option Addr) (c : Nat) (l : List O3), v = .slice A l.length c ∧ l.length ≤ maxLen ∧ RdO w w.heap.size A l := by
  obtain ⟨a0, len, cap, rfl⟩ := okWide_slice ht hv
  obtain ⟨fuel, hf⟩ := h
  rcases open_slice ht hf with ⟨hcs, _⟩ | ⟨a, len', cap', m, n, D, Pl, hcs, hb, hl, hm, hmm, hx, hi⟩
  · simp [Value.cells] at hcs
    obtain ⟨rfl, rfl, rfl⟩ := hcs
    exact ⟨none, 0, [], rfl, by simp [maxLen], RdO.nil⟩
  · simp [Value.cells] at hcs
    obtain ⟨rfl, rfl, rfl⟩ := hcs
    have hlm : len ≤ m := by rw [hmm]; split <;> omega
    have key : ∀ i, i < len → ∃ o : O3, (∃ b off, a = ⟨b, off, none⟩ ∧ b < w.heap.size ∧ w.cell? ⟨b, off + i * 3, none⟩ = some (.int .i64 o.tx) ∧ w.cell? ⟨b, off + i * 3 + 1, none⟩ = some (.int .i64 o.kind) ∧ w.cell? ⟨b, off + i * 3 + 2, none⟩ = some (.int .i64 o.item)) := by
      intro i him
      obtain ⟨cs', hc, ht'⟩ := hi i (by omega)
      rw [hC] at hc
      obtain ⟨_, hcl, hat⟩ := World.cells?_some hc
      obtain ⟨y0, y1, y2, n', _, _, g0, g1, g2⟩ := trod_struct3 he ht'
      obtain ⟨o0, k0⟩ := hone_of hone 0 f0 rfl
      obtain ⟨o1, k1⟩ := hone_of hone 1 f1 rfl
      obtain ⟨o2, k2⟩ := hone_of hone 2 f2 rfl
      match cs', hcl with
      | [c0, c1, c2], _ =>
        obtain ⟨x0, e0, _, _⟩ := DataW.trod_int h0 g0
        obtain ⟨x1, e1, _, _⟩ := DataW.trod_int h1 g1
        obtain ⟨x2, e2, _, _⟩ := DataW.trod_int h2 g2
        simp [o0, k0] at e0
        simp [o1, k1] at e1
        simp [o2, k2] at e2
        subst e0 e1 e2
        have q0 := hat 0 (by omega)
        have q1 := hat 1 (by omega)
        have q2 := hat 2 (by omega)
        obtain ⟨b, off, spot⟩ := a
        have hspot : spot = none := by
          have hz := hi 0 (by omega)
          obtain ⟨cs0, hc0, _⟩ := hz
          rw [hC] at hc0
          obtain ⟨_, _, hat0⟩ := World.cells?_some hc0
          have h3 := hat0 0 (by omega)
          have hcs0 : cs0[0]? = some (cs0[0]'(by omega)) := List.getElem?_eq_getElem (by omega)
          rw [hcs0] at h3
          have hsp := World.cell?_spot h3
          simpa [Addr.add] using hsp
        subst hspot
        simp only [addr_add, Nat.add_zero] at q0 q1 q2
        have hbl : b < w.heap.size := World.block_lt_of_cell? w _ q0
        exact ⟨⟨x0, x1, x2⟩, b, off, rfl, hbl, by simpa using q0, by simpa using q1, by simpa using q2⟩
    obtain ⟨l, hll, hq⟩ := list_of len key
    refine ⟨some a, cap, l, by rw [hll], by omega, fun hne => ?_⟩
    have hpos : 0 < l.length := List.length_pos_iff.2 hne
    obtain ⟨b, off, rfl, hbl, _⟩ := hq 0 hpos
    refine ⟨b, off, rfl, hbl, fun k hk => ?_⟩
    obtain ⟨b', off', e, _, r⟩ := hq k hk
    injection e with e1 e2
    subst e1 e2
    exact r
end

/-! ### A test that is handed over as a function value. -/
/-- Function F with its captured values answers p on each of l, from whatever world came of w. -/
structure TestOn (P : Program) (F : FuncId) (caps : Array Value) (w : World) (p : O3 → Bool) (l : List O3) : Prop where
  go : ∀ args w, (callFunc F args).run P w = .ok (.enter F args) w
  test : ∀ o ∈ l, ∀ w1, Below w.heap.size w w1 → Calls P F (#[.agg #[.int .i64 o.tx, .int .i64 o.kind, .int .i64 o.item]] ++ caps) w1 fun e w' => e = .returned (.bool (p o)) ∧ Below w1.heap.size w1 w'

/-! ### Rows of the call's own: operations (three cells each), numbers (one cell each). -/
def cellsO (l : List O3) : List Value := l.flatMap fun o => [.int .i64 o.tx, .int .i64 o.kind, .int .i64 o.item]
def cellsI (l : List Int) : List Value := l.map (Value.int .i64)
theorem cellsO_cons (o : O3) (l : List O3) : cellsO (o :: l) = .int .i64 o.tx :: .int .i64 o.kind :: .int .i64 o.item :: cellsO l := rfl
theorem cellsO_append (a b : List O3) : cellsO (a ++ b) = cellsO a ++ cellsO b := by simp [cellsO]
theorem cellsO_length (l : List O3) : (cellsO l).length = l.length * 3 := by
  induction l with
  | nil => rfl
  | cons o l ih => rw [cellsO_cons]; simp [ih]; omega
theorem cellsO_one (l : List O3) : ∀ u ∈ cellsO l, u.oneCell' = true := by
  intro u hu
  simp only [cellsO, List.mem_flatMap] at hu
  obtain ⟨o, _, ho⟩ := hu
  simp at ho
  rcases ho with rfl | rfl | rfl <;> rfl
theorem cellsO_at : ∀ (l : List O3) (k : Nat) (h : k < l.length), (cellsO l)[k * 3]? = some (.int .i64 l[k].tx) ∧ (cellsO l)[k * 3 + 1]? = some (.int .i64 l[k].kind) ∧ (cellsO l)[k * 3 + 2]? = some (.int .i64 l[k].item)
  | o :: l, 0, _ => by rw [cellsO_cons]; simp
  | o :: l, k + 1, h => by
    have ih := cellsO_at l k (by simpa using h)
    rw [cellsO_cons, show (k + 1) * 3 = k * 3 + 3 by omega]
    simpa using ih
theorem cellsO_set : ∀ (l : List O3) (k : Nat) (a b c : Int), k < l.length → (((cellsO l).set (k * 3) (.int .i64 a)).set (k * 3 + 1) (.int .i64 b)).set (k * 3 + 2) (.int .i64 c) = cellsO (l.set k ⟨a, b, c⟩)
  | o :: l, 0, a, b, c, _ => by rw [cellsO_cons]; simp [cellsO_cons]
  | o :: l, k + 1, a, b, c, h => by
    have ih := cellsO_set l k a b c (by simpa using h)
    rw [cellsO_cons, show (k + 1) * 3 = k * 3 + 3 by omega]
    simpa [cellsO_cons] using ih
theorem cellsO_zeros (n : Nat) : cellsO (List.replicate n ⟨0, 0, 0⟩) = List.replicate (n * 3) (.int .i64 0) := by
  induction n with
  | zero => rfl
  | succ n ih => rw [List.replicate_succ, cellsO_cons, ih, show (n + 1) * 3 = n * 3 + 3 by omega]; simp [List.replicate_succ]
theorem made_zeros3 (n : Nat) : (madeCells (Value.agg #[.int .i64 0, .int .i64 0, .int .i64 0]).cells (n * 3)).toList = cellsO (List.replicate n ⟨0, 0, 0⟩) := by
  rw [cellsO_zeros]
  apply List.ext_getElem?
  intro j
  by_cases hj : j < n * 3
  · have h3 : j % 3 < 3 := Nat.mod_lt _ (by omega)
    simp [madeCells, hj, Value.cells]
    match hm : j % 3, h3 with
    | 0, _ => simp
    | 1, _ => simp
    | 2, _ => simp
  · simp [madeCells, hj]

/-- A slice value of n elements whose cells xs lie at the head of a block of the call's own (or nil). What 'append' leaves, cut to its length or not. -/
def OwnG (w : World) (base : Nat) (E : TypeId) (v : Value) (n : Nat) (xs : List Value) : Prop :=
  (v = .slice none 0 0 ∧ n = 0 ∧ xs = []) ∨
  ∃ g cap cur, v = .slice (some ⟨g, 0, none⟩) n cap ∧ base ≤ g ∧ w.heap[g]? = some (.cells cur E (0, 0)) ∧ n ≤ cap ∧ cap ≤ maxLen ∧ cur.toList.take xs.length = xs
section
variable {w w' : World} {base base' : Nat} {E : TypeId} {v : Value} {n g cap : Nat} {xs : List Value}
theorem OwnG.of_row {size : Nat} (h : w.ownsRow base E size v n xs) : OwnG w base E v n xs := by
  rcases h.2 with ⟨rfl, hn⟩ | ⟨g, cap, cur, rfl, hb, hg, hnc, hcm, hcs, htake⟩
  · exact .inl ⟨rfl, hn, List.eq_nil_of_length_eq_zero (by rw [h.1, hn]; simp)⟩
  · exact .inr ⟨g, cap, cur, rfl, hb, hg, hnc, hcm, by rw [h.1]; exact htake⟩
theorem OwnG.at_ (h : OwnG w base E (.slice (some ⟨g, 0, none⟩) n cap) n xs) : base ≤ g ∧ g < w.heap.size ∧ n ≤ cap ∧ cap ≤ maxLen ∧ (∀ j, j < xs.length → w.cell? ⟨g, j, none⟩ = xs[j]?) ∧ ∀ j, w.frozen? ⟨g, j, none⟩ = false := by
  rcases h with ⟨h', _⟩ | ⟨g', cap', cur, h', hb, hg, hnc, hcm, htake⟩
  · simp at h'
  · simp only [Value.slice.injEq, Option.some.injEq, Addr.mk.injEq, and_true, true_and] at h'
    obtain ⟨rfl, rfl⟩ := h'
    refine ⟨hb, (Array.getElem?_eq_some_iff.1 hg).1, hnc, hcm, fun j hj => ?_, fun j => frozen_of_row w g j cur E hg⟩
    have e : xs[j]? = (cur.toList.take xs.length)[j]? := by rw [htake]
    rw [cell_of_row w g j cur E (0, 0) hg, e, List.getElem?_take, if_pos hj]
    simp
theorem OwnG.stored (h : OwnG w base E (.slice (some ⟨g, 0, none⟩) n cap) n xs) (j : Nat) (u : Value) : OwnG (w.setCell ⟨g, j, none⟩ u) base E (.slice (some ⟨g, 0, none⟩) n cap) n (xs.set j u) := by
  rcases h with ⟨h', _⟩ | ⟨g', cap', cur, h', hb, hg, hnc, hcm, htake⟩
  · simp at h'
  · simp only [Value.slice.injEq, Option.some.injEq, Addr.mk.injEq, and_true, true_and] at h'
    obtain ⟨rfl, rfl⟩ := h'
    refine .inr ⟨g, cap, cur.setIfInBounds j u, rfl, hb, heap_setCell_same w g j cur E u hg, hnc, hcm, ?_⟩
    rw [Array.toList_setIfInBounds, List.length_set, List.take_set, htake]
theorem OwnG.kept (h : OwnG w base E v n xs) (hk : ∀ k, k < w.heap.size → w'.heap[k]? = w.heap[k]?) : OwnG w' base E v n xs := by
  rcases h with h | ⟨g, cap, cur, hv, hb, hg, r⟩
  · exact .inl h
  · exact .inr ⟨g, cap, cur, hv, hb, by rw [hk g (Array.getElem?_eq_some_iff.1 hg).1]; exact hg, r⟩
/-- kept where the one block that turned is another -/
theorem OwnG.far {row : Option Nat} (h : OwnG w base E v n xs) (hg : w.grownBy w' row) (hne : v.ownBlock = none ∨ v.ownBlock ≠ row) : OwnG w' base E v n xs := by
  rcases h with h | ⟨g, cap, cur, rfl, hb, hgg, r⟩
  · exact .inl h
  · refine .inr ⟨g, cap, cur, rfl, hb, ?_, r⟩
    rw [hg.block g (Array.getElem?_eq_some_iff.1 hgg).1 (by simpa [Value.ownBlock] using hne)]
    exact hgg
theorem OwnG.low (h : OwnG w base E v n xs) (hB : base' ≤ base) : OwnG w base' E v n xs := by
  rcases h with h | ⟨g, cap, cur, hv, hb, r⟩
  · exact .inl h
  · exact .inr ⟨g, cap, cur, hv, by omega, r⟩
theorem OwnG.own_lt (h : OwnG w base E v n xs) : ∀ k, v.ownBlock = some k → base ≤ k ∧ k < w.heap.size := by
  intro k hk
  rcases h with ⟨rfl, _⟩ | ⟨g, cap, cur, rfl, hb, hg, _⟩
  · simp [Value.ownBlock] at hk
  · simp [Value.ownBlock] at hk
    subst hk
    exact ⟨hb, (Array.getElem?_eq_some_iff.1 hg).1⟩
/-- 's[:len(s):len(s)]' of it -/
theorem OwnG.clip (h : OwnG w base E v n xs) : ∃ A c, v = .slice A n c ∧ n ≤ c ∧ OwnG w base E (.slice A n n) n xs := by
  rcases h with ⟨rfl, rfl, rfl⟩ | ⟨g, cap, cur, rfl, hb, hg, hnc, hcm, ht⟩
  · exact ⟨none, 0, rfl, Nat.le_refl _, .inl ⟨rfl, rfl, rfl⟩⟩
  · exact ⟨_, _, rfl, hnc, .inr ⟨g, n, cur, rfl, hb, hg, Nat.le_refl _, by omega, ht⟩⟩
end
def OwnO (w : World) (base : Nat) (E : TypeId) (v : Value) (l : List O3) : Prop := OwnG w base E v l.length (cellsO l)
def OwnI (w : World) (base : Nat) (E : TypeId) (v : Value) (l : List Int) : Prop := OwnG w base E v l.length (cellsI l)
theorem cellsI_length (l : List Int) : (cellsI l).length = l.length := by simp [cellsI]
theorem cellsI_one (l : List Int) : ∀ u ∈ cellsI l, u.oneCell' = true := by
  intro u hu
  simp only [cellsI, List.mem_map] at hu
  obtain ⟨o, _, rfl⟩ := hu
  rfl
/-- The slice at A reads as the numbers l, below block B. -/
def RdI (w : World) (B : Nat) (A : Option Addr) (l : List Int) : Prop :=
  l ≠ [] → ∃ b off, A = some ⟨b, off, none⟩ ∧ b < B ∧ ∀ k (h : k < l.length), w.cell? ⟨b, off + k, none⟩ = some (.int .i64 l[k])
section
variable {w w' : World} {base B : Nat} {E : TypeId} {v : Value} {l : List O3} {zs : List Int} {g cap : Nat} {A : Option Addr}
theorem RdI.nil : RdI w B A [] := fun h => absurd rfl h
theorem RdI.at_ (h : RdI w B A zs) {k : Nat} (hk : k < zs.length) : ∃ b off, A = some ⟨b, off, none⟩ ∧ b < B ∧ w.cell? ⟨b, off + k, none⟩ = some (.int .i64 zs[k]) := by
  obtain ⟨b, off, hA, hb, hc⟩ := h (fun e => by simp [e] at hk)
  exact ⟨b, off, hA, hb, hc k hk⟩
theorem RdI.keep (h : RdI w B A zs) (hk : ∀ p : Addr, p.block < B → w'.cell? p = w.cell? p) : RdI w' B A zs := fun hl => by
  obtain ⟨b, off, hA, hb, hc⟩ := h hl
  refine ⟨b, off, hA, hb, fun k hk' => ?_⟩
  rw [hk _ hb]
  exact hc k hk'
theorem RdI.below {B' : Nat} (h : RdI w B A zs) (hb : Below B' w w') (hB : B ≤ B') : RdI w' B A zs := h.keep fun _ hp => hb.cell (by omega)
theorem RdI.more {B' : Nat} (h : RdI w B A zs) (hB : B ≤ B') : RdI w B' A zs := fun hl => by
  obtain ⟨b, off, hA, hb, hc⟩ := h hl
  exact ⟨b, off, hA, by omega, hc⟩
theorem RdI.alloc (h : RdI w B A zs) (hB : B ≤ w.heap.size) (o : Obj) : RdI (w.alloc o) B A zs := h.keep fun p hp => World.cell?_alloc_lt w o p (by omega)
theorem RdI.on (h : RdI w w.heap.size A zs) (hb : Below w.heap.size w w') : RdI w' w'.heap.size A zs := (h.below hb (Nat.le_refl _)).more hb.size

theorem OwnO.nil_ : OwnO w base E (.slice none 0 0) [] := .inl ⟨rfl, rfl, rfl⟩
theorem OwnI.nil_ : OwnI w base E (.slice none 0 0) [] := .inl ⟨rfl, rfl, rfl⟩
/-- What is owned reads as its list. -/
theorem OwnO.reads (h : OwnO w base E v l) : ∃ A c, v = .slice A l.length c ∧ (l.length ≤ c ∧ l.length ≤ maxLen) ∧ RdO w w.heap.size A l ∧ (l ≠ [] → ∃ g, A = some ⟨g, 0, none⟩ ∧ base ≤ g ∧ g < w.heap.size) := by
  have h' := h
  rcases h with ⟨rfl, hn, _⟩ | ⟨g, cap, cur, rfl, _⟩
  · have : l = [] := List.eq_nil_of_length_eq_zero hn
    subst this
    exact ⟨none, 0, rfl, by simp [maxLen], RdO.nil, fun h => absurd rfl h⟩
  · obtain ⟨hb, hlt, hnc, hcm, hcell, _⟩ := OwnG.at_ h'
    rw [cellsO_length] at hcell
    refine ⟨_, cap, rfl, ⟨hnc, by omega⟩, fun hl => ⟨g, 0, rfl, hlt, fun k hk => ?_⟩, fun _ => ⟨g, rfl, hb, hlt⟩⟩
    obtain ⟨c0, c1, c2⟩ := cellsO_at l k hk
    simp only [Nat.zero_add]
    exact ⟨(hcell _ (by omega)).trans c0, (hcell _ (by omega)).trans c1, (hcell _ (by omega)).trans c2⟩
theorem OwnI.reads (h : OwnI w base E v zs) : ∃ A c, v = .slice A zs.length c ∧ (zs.length ≤ c ∧ zs.length ≤ maxLen) ∧ RdI w w.heap.size A zs ∧ (zs ≠ [] → ∃ g, A = some ⟨g, 0, none⟩ ∧ base ≤ g ∧ g < w.heap.size) := by
  have h' := h
  rcases h with ⟨rfl, hn, _⟩ | ⟨g, cap, cur, rfl, _⟩
  · have : zs = [] := List.eq_nil_of_length_eq_zero hn
    subst this
    exact ⟨none, 0, rfl, by simp [maxLen], RdI.nil, fun h => absurd rfl h⟩
  · obtain ⟨hb, hlt, hnc, hcm, hcell, _⟩ := OwnG.at_ h'
    rw [cellsI_length] at hcell
    refine ⟨_, cap, rfl, ⟨hnc, by omega⟩, fun hl => ⟨g, 0, rfl, hlt, fun k hk => ?_⟩, fun _ => ⟨g, rfl, hb, hlt⟩⟩
    simp only [Nat.zero_add]
    rw [hcell k hk]; simp [cellsI, hk]
theorem OwnO.at_ (h : OwnO w base E v l) {k : Nat} (hk : k < l.length) : ∃ g cap, v = .slice (some ⟨g, 0, none⟩) l.length cap ∧ base ≤ g ∧ g < w.heap.size ∧ w.cell? ⟨g, k * 3, none⟩ = some (.int .i64 l[k].tx) ∧ w.cell? ⟨g, k * 3 + 1, none⟩ = some (.int .i64 l[k].kind) ∧ w.cell? ⟨g, k * 3 + 2, none⟩ = some (.int .i64 l[k].item) ∧ ∀ j, w.frozen? ⟨g, j, none⟩ = false := by
  obtain ⟨A, c, rfl, _, hR, hg⟩ := h.reads
  obtain ⟨g, rfl, hb, hlt⟩ := hg (fun e => by simp [e] at hk)
  obtain ⟨b, off, e, _, h0, h1, h2⟩ := hR.at_ hk
  injection e with e
  injection e with e1 e2
  subst e1 e2
  simp only [Nat.zero_add] at h0 h1 h2
  exact ⟨g, c, rfl, hb, hlt, h0, h1, h2, (OwnG.at_ h).2.2.2.2.2⟩
theorem OwnI.at_ (h : OwnI w base E v zs) {k : Nat} (hk : k < zs.length) : ∃ g cap, v = .slice (some ⟨g, 0, none⟩) zs.length cap ∧ base ≤ g ∧ g < w.heap.size ∧ w.cell? ⟨g, k, none⟩ = some (.int .i64 zs[k]) ∧ ∀ j, w.frozen? ⟨g, j, none⟩ = false := by
  obtain ⟨A, c, rfl, _, hR, hg⟩ := h.reads
  obtain ⟨g, rfl, hb, hlt⟩ := hg (fun e => by simp [e] at hk)
  obtain ⟨b, off, e, _, h0⟩ := hR.at_ hk
  injection e with e
  injection e with e1 e2
  subst e1 e2
  simp only [Nat.zero_add] at h0
  exact ⟨g, c, rfl, hb, hlt, h0, (OwnG.at_ h).2.2.2.2.2⟩
/-- an element stored, cell by cell -/
theorem OwnO.set3 {n : Nat} (h : OwnO w base E (.slice (some ⟨g, 0, none⟩) n cap) l) (hn : n = l.length) {k : Nat} (hk : k < l.length) (a b c : Int) :
    OwnO (((w.setCell ⟨g, k * 3, none⟩ (.int .i64 a)).setCell ⟨g, k * 3 + 1, none⟩ (.int .i64 b)).setCell ⟨g, k * 3 + 2, none⟩ (.int .i64 c)) base E (.slice (some ⟨g, 0, none⟩) n cap) (l.set k ⟨a, b, c⟩) := by
  subst hn
  have h1 := OwnG.stored h (k * 3) (.int .i64 a)
  have h2 := OwnG.stored h1 (k * 3 + 1) (.int .i64 b)
  have h3 := OwnG.stored h2 (k * 3 + 2) (.int .i64 c)
  rw [cellsO_set l k a b c hk] at h3
  unfold OwnO
  rw [List.length_set]
  exact h3
theorem OwnI.set_ {n : Nat} (h : OwnI w base E (.slice (some ⟨g, 0, none⟩) n cap) zs) (hn : n = zs.length) (k : Nat) (a : Int) :
    OwnI (w.setCell ⟨g, k, none⟩ (.int .i64 a)) base E (.slice (some ⟨g, 0, none⟩) n cap) (zs.set k a) := by
  subst hn
  have h1 := OwnG.stored h k (.int .i64 a)
  unfold OwnI
  rw [List.length_set, cellsI, List.map_set]
  exact h1
theorem OwnO.below {B' : Nat} (h : OwnO w base E v l) (hb : Below B' w w') (hB : w.heap.size ≤ B') : OwnO w' base E v l := OwnG.kept h (fun k hk => hb.block k (by omega))
theorem OwnI.below {B' : Nat} (h : OwnI w base E v zs) (hb : Below B' w w') (hB : w.heap.size ≤ B') : OwnI w' base E v zs := OwnG.kept h (fun k hk => hb.block k (by omega))
theorem OwnO.alloc (h : OwnO w base E v l) (o : Obj) : OwnO (w.alloc o) base E v l := OwnG.kept h (fun k hk => Below.heap_alloc w o k hk)
theorem OwnI.alloc (h : OwnI w base E v zs) (o : Obj) : OwnI (w.alloc o) base E v zs := OwnG.kept h (fun k hk => Below.heap_alloc w o k hk)
theorem OwnO.low {base' : Nat} (h : OwnO w base E v l) (hB : base' ≤ base) : OwnO w base' E v l := OwnG.low h hB
theorem OwnI.low {base' : Nat} (h : OwnI w base E v zs) (hB : base' ≤ base) : OwnI w base' E v zs := OwnG.low h hB
theorem OwnO.on (h : OwnO w base E v l) (hb : Below w.heap.size w w') : OwnO w' base E v l := h.below hb (Nat.le_refl _)
theorem OwnI.on (h : OwnI w base E v zs) (hb : Below w.heap.size w w') : OwnI w' base E v zs := h.below hb (Nat.le_refl _)
end
section
variable {w w' : World} {base : Nat} {E : TypeId} {l : List O3} {zs : List Int} {g cap n : Nat}
/-- the cells of an owned row whose value is known -/
theorem OwnO.cells (h : OwnO w base E (.slice (some ⟨g, 0, none⟩) n cap) l) {k : Nat} (hk : k < l.length) : base ≤ g ∧ g < w.heap.size ∧ w.cell? ⟨g, k * 3, none⟩ = some (.int .i64 l[k].tx) ∧ w.cell? ⟨g, k * 3 + 1, none⟩ = some (.int .i64 l[k].kind) ∧ w.cell? ⟨g, k * 3 + 2, none⟩ = some (.int .i64 l[k].item) ∧ ∀ j, w.frozen? ⟨g, j, none⟩ = false := by
  obtain ⟨g', cap', e, r⟩ := h.at_ hk
  injection e with e1 e2 e3
  injection e1 with e1
  injection e1 with e1
  subst e1
  exact r
theorem OwnI.cells (h : OwnI w base E (.slice (some ⟨g, 0, none⟩) n cap) zs) {k : Nat} (hk : k < zs.length) : base ≤ g ∧ g < w.heap.size ∧ w.cell? ⟨g, k, none⟩ = some (.int .i64 zs[k]) ∧ ∀ j, w.frozen? ⟨g, j, none⟩ = false := by
  obtain ⟨g', cap', e, r⟩ := h.at_ hk
  injection e with e1 e2 e3
  injection e1 with e1
  injection e1 with e1
  subst e1
  exact r
theorem take_set_next {α : Type} {l : List α} {z : α} {k : Nat} (hk : k < l.length) : (l.take k ++ List.replicate (l.length - k) z).set k l[k] = l.take (k + 1) ++ List.replicate (l.length - (k + 1)) z := by
  have hm : (l.take k).length = k := by simp; omega
  have e : l.length - k = (l.length - (k + 1)) + 1 := by omega
  rw [List.set_append_right _ _ (by omega), hm, Nat.sub_self, e, List.replicate_succ, List.set_cons_zero, List.take_succ_eq_append_getElem hk, List.append_assoc]
  rfl
theorem take_zeros_len {α : Type} {l : List α} {z : α} {k : Nat} (hk : k ≤ l.length) : (l.take k ++ List.replicate (l.length - k) z).length = l.length := by simp; omega
end
theorem OwnO.rd {w : World} {base : Nat} {E : TypeId} {A : Option Addr} {n c : Nat} {l : List O3} (h : OwnO w base E (.slice A n c) l) : RdO w w.heap.size A l := by
  obtain ⟨A', c', e, _, hR, _⟩ := h.reads
  injection e with e1 e2 e3
  subst e1
  exact hR
theorem OwnI.rd {w : World} {base : Nat} {E : TypeId} {A : Option Addr} {n c : Nat} {l : List Int} (h : OwnI w base E (.slice A n c) l) : RdI w w.heap.size A l := by
  obtain ⟨A', c', e, _, hR, _⟩ := h.reads
  injection e with e1 e2 e3
  subst e1
  exact hR

/-! ### 'append' of one element to a row of the call's own -/
def AppO (w : World) (base : Nat) (E : TypeId) (v : Value) (l : List O3) : Prop := w.ownsRow base E 3 v l.length (cellsO l)
def AppI (w : World) (base : Nat) (E : TypeId) (v : Value) (l : List Int) : Prop := w.ownsRow base E 1 v l.length (cellsI l)
section
variable {w w' : World} {base base' : Nat} {E : TypeId} {v : Value} {l : List O3} {zs : List Int} {n : Nat} {A : Option Addr} {c : Nat}
theorem AppO.nil_ : AppO w base E (.slice none 0 0) [] := World.ownsRow_nil _ _ _ _
theorem AppI.nil_ : AppI w base E (.slice none 0 0) [] := World.ownsRow_nil _ _ _ _
theorem AppO.own (h : AppO w base E v l) : OwnO w base E v l := OwnG.of_row h
theorem AppI.own (h : AppI w base E v zs) : OwnI w base E v zs := OwnG.of_row h
theorem row_kept {size : Nat} {xs : List Value} (h : w.ownsRow base E size v n xs) (hk : ∀ k, k < w.heap.size → w'.heap[k]? = w.heap[k]?) : w'.ownsRow base E size v n xs := by
  refine ⟨h.1, ?_⟩
  rcases h.2 with h' | ⟨g, cap, cur, hv, hb, hg, r⟩
  · exact .inl h'
  · exact .inr ⟨g, cap, cur, hv, hb, by rw [hk g (Array.getElem?_eq_some_iff.1 hg).1]; exact hg, r⟩
theorem AppO.on (h : AppO w base E v l) (hb : Below w.heap.size w w') : AppO w' base E v l := row_kept h hb.block
theorem AppI.on (h : AppI w base E v zs) (hb : Below w.heap.size w w') : AppI w' base E v zs := row_kept h hb.block
theorem AppO.alloc (h : AppO w base E v l) (o : Obj) : AppO (w.alloc o) base E v l := row_kept h (fun k hk => Below.heap_alloc w o k hk)
theorem AppI.alloc (h : AppI w base E v zs) (o : Obj) : AppI (w.alloc o) base E v zs := row_kept h (fun k hk => Below.heap_alloc w o k hk)
theorem row_form {size : Nat} {xs : List Value} (h : w.ownsRow base E size v n xs) : ∃ A c, v = .slice A n c ∧ n ≤ c := by
  rcases h.2 with ⟨rfl, rfl⟩ | ⟨g, cap, cur, rfl, _, _, hnc, _⟩
  · exact ⟨none, 0, rfl, Nat.le_refl _⟩
  · exact ⟨_, cap, rfl, hnc⟩
theorem AppO.cap (h : AppO w base E (.slice A n c) l) : n ≤ c ∧ l.length ≤ c := by
  obtain ⟨A', c', e, hc⟩ := row_form h
  injection e with _ e2 e3
  subst e2 e3
  exact ⟨hc, hc⟩
theorem AppI.cap (h : AppI w base E (.slice A n c) zs) : n ≤ c ∧ zs.length ≤ c := by
  obtain ⟨A', c', e, hc⟩ := row_form h
  injection e with _ e2 e3
  subst e2 e3
  exact ⟨hc, hc⟩
theorem OwnO.cut (h : OwnO w base E (.slice A n c) l) (hn : n = l.length) : OwnO w base E (.slice A n n) l := by
  subst hn
  obtain ⟨A', c', e, _, h'⟩ := OwnG.clip h
  injection e with e1 _ _
  subst e1
  exact h'
theorem OwnI.cut (h : OwnI w base E (.slice A n c) zs) (hn : n = zs.length) : OwnI w base E (.slice A n n) zs := by
  subst hn
  obtain ⟨A', c', e, _, h'⟩ := OwnG.clip h
  injection e with e1 _ _
  subst e1
  exact h'
end
section
variable {P : Program} {ops : Array Oper} {rest : List Oper} {o : Oper} {a : Act} {Q : Exit → Act → World → Prop}
theorem wpList_app_o (W : World) (T E : TypeId) (i : TypeInfo) (hgd : o.guard = none) (s x : Operand)
    (ho : o.op = .call { callee := .builtin .append, args := #[s, x], argTypes := #[T, T] })
    (ht : P.underlying T = some (.slice E)) (hi : P.info? E = some i) (hz : i.zero = some (.agg #[.int .i64 0, .int .i64 0, .int .i64 0])) (hsize : i.size = 3) (hby : i.bytes = 24)
    (base : Nat) (v : Value) (l : List O3) (hs : a.eval s = v) (hown : AppO W base E v l)
    (p : O3) (g : Nat) (hx : a.eval x = .slice (some ⟨g, 0, none⟩) 1 1) (hgW : g = W.heap.size) (hlen : l.length ≤ 4194304) (hbase : base ≤ W.heap.size)
    (h : ∀ A' c' w', AppO w' base E (.slice A' (l.length + 1) c') (l ++ [p]) → (W.alloc (.cells #[.int .i64 p.tx, .int .i64 p.kind, .int .i64 p.item] E)).grownBy w' v.ownBlock → Below base W w' → wpList P ops Q rest (a.put o.dst (.slice A' (l.length + 1) c')) w') :
    wpList P ops Q (o :: rest) a (W.alloc (.cells #[.int .i64 p.tx, .int .i64 p.kind, .int .i64 p.item] E)) := by
  subst hgW
  refine wpList_append_own _ hgd s x T ho base E i _ 3 24 ht hi hz hsize hby rfl (by decide) v l.length (cellsO l) hs (hown.alloc _) ⟨W.heap.size, 0, none⟩ 1 1 (cellsO [p]) hx rfl ?_ (cellsO_one _) ?_ ?_ ?_ ?_
  · intro j u hj
    rw [addr_add, Nat.zero_add, World.cell?_alloc_new]
    simpa [cellsO] using hj
  · unfold maxLen; omega
  · omega
  · simp; omega
  · intro v' w' h1 h2 _
    obtain ⟨A', c', rfl, _⟩ := row_form h1
    refine h A' c' w' (by unfold AppO; rw [List.length_append, cellsO_append]; exact h1) h2 ?_
    refine Below.grown (((Below.refl _ _).alloc hbase _)) h2 (by simp; omega) (fun k hk => ?_)
    exact (hown.lt k hk).1
theorem wpList_app_i (W : World) (T E : TypeId) (i : TypeInfo) (hgd : o.guard = none) (s x : Operand)
    (ho : o.op = .call { callee := .builtin .append, args := #[s, x], argTypes := #[T, T] })
    (ht : P.underlying T = some (.slice E)) (hi : P.info? E = some i) (hz : i.zero = some (.int .i64 0)) (hsize : i.size = 1) (hby : i.bytes = 8)
    (base : Nat) (v : Value) (l : List Int) (hs : a.eval s = v) (hown : AppI W base E v l)
    (p : Int) (g : Nat) (hx : a.eval x = .slice (some ⟨g, 0, none⟩) 1 1) (hgW : g = W.heap.size) (hlen : l.length ≤ 4194304) (hbase : base ≤ W.heap.size)
    (h : ∀ A' c' w', AppI w' base E (.slice A' (l.length + 1) c') (l ++ [p]) → (W.alloc (.cells #[.int .i64 p] E)).grownBy w' v.ownBlock → Below base W w' → wpList P ops Q rest (a.put o.dst (.slice A' (l.length + 1) c')) w') :
    wpList P ops Q (o :: rest) a (W.alloc (.cells #[.int .i64 p] E)) := by
  subst hgW
  refine wpList_append_own _ hgd s x T ho base E i _ 1 8 ht hi hz hsize hby rfl (by decide) v l.length (cellsI l) hs (hown.alloc _) ⟨W.heap.size, 0, none⟩ 1 1 (cellsI [p]) hx rfl ?_ (cellsI_one _) ?_ ?_ ?_ ?_
  · intro j u hj
    rw [addr_add, Nat.zero_add, World.cell?_alloc_new]
    simpa [cellsI] using hj
  · unfold maxLen; omega
  · omega
  · simp; omega
  · intro v' w' h1 h2 _
    obtain ⟨A', c', rfl, _⟩ := row_form h1
    refine h A' c' w' (by unfold AppI; rw [List.length_append]; simpa [cellsI] using h1) h2 ?_
    refine Below.grown (((Below.refl _ _).alloc hbase _)) h2 (by simp; omega) (fun k hk => ?_)
    exact (hown.lt k hk).1
end
theorem AppO.made {w : World} {base : Nat} {E : TypeId} (hb : base ≤ w.heap.size) (cs : Array Value) (c : Nat) (hc : c ≤ maxLen) (hs : cs.size = c * 3) : AppO (w.alloc (.cells cs E)) base E (.slice (some ⟨w.heap.size, 0, none⟩) 0 c) [] :=
  World.ownsRow_made w cs c hb hc hs
theorem AppI.made {w : World} {base : Nat} {E : TypeId} (hb : base ≤ w.heap.size) (cs : Array Value) (c : Nat) (hc : c ≤ maxLen) (hs : cs.size = c * 1) : AppI (w.alloc (.cells cs E)) base E (.slice (some ⟨w.heap.size, 0, none⟩) 0 c) [] :=
  World.ownsRow_made w cs c hb hc hs

/-! ### What an exact law holds: the reference's result, the argument's copy, the program's result, in blocks of their own. -/
structure St (w0 w : World) (b0 bx bg : Nat) (E0 Ex Eg : TypeId) (v0 vx vg : Value) (n0 nx ng : Nat) (xs0 xsx xsg : List Value) : Prop where
  bel : Below w0.heap.size w0 w
  s : OwnG w b0 E0 v0 n0 xs0
  x : OwnG w bx Ex vx nx xsx
  g : OwnG w bg Eg vg ng xsg
  sx : ∀ k, v0.ownBlock = some k → vx.ownBlock ≠ some k
  gx : ∀ k, vg.ownBlock = some k → vx.ownBlock ≠ some k
  sg : ∀ k, v0.ownBlock = some k → vg.ownBlock ≠ some k
  lx : ∀ k, vx.ownBlock = some k → w0.heap.size ≤ k
  lg : ∀ k, vg.ownBlock = some k → w0.heap.size ≤ k
section
variable {w0 w w' w2 w3 : World} {b0 bx bg : Nat} {E0 Ex Eg : TypeId} {v0 vx vg : Value} {n0 nx ng : Nat} {xs0 xsx xsg xs' : List Value}
theorem OwnG.on {base n : Nat} {E : TypeId} {v : Value} {xs : List Value} (h : OwnG w base E v n xs) (hb : Below w.heap.size w w') : OwnG w' base E v n xs := h.kept (fun k hk => hb.block k hk)
theorem St.start (hbel : Below w0.heap.size w0 w2) (h2 : OwnG w2 b0 E0 v0 n0 xs0) (hb3 : Below w2.heap.size w2 w3) (h3 : OwnG w3 w2.heap.size Ex vx nx xsx) (hb4 : Below w3.heap.size w3 w) (h4 : OwnG w w3.heap.size Eg vg ng xsg) :
    St w0 w b0 w2.heap.size w3.heap.size E0 Ex Eg v0 vx vg n0 nx ng xs0 xsx xsg := by
  have a := h2.own_lt
  have b := h3.own_lt
  have c := h4.own_lt
  have z1 := hbel.size
  have z2 := hb3.size
  refine ⟨Below.via hb4 (Below.via hb3 hbel), (h2.on hb3).on hb4, h3.on hb4, h4, fun k hk e => ?_, fun k hk e => ?_, fun k hk e => ?_, fun k hk => ?_, fun k hk => ?_⟩
  · have := a k hk; have := b k e; omega
  · have := c k hk; have := b k e; omega
  · have := a k hk; have := c k e; omega
  · have := b k hk; omega
  · have := c k hk; omega
variable {b0 bx bg : Nat}
theorem St.on (h : St w0 w b0 bx bg E0 Ex Eg v0 vx vg n0 nx ng xs0 xsx xsg) (hb : Below w.heap.size w w') : St w0 w' b0 bx bg E0 Ex Eg v0 vx vg n0 nx ng xs0 xsx xsg :=
  ⟨Below.via hb h.bel, h.s.on hb, h.x.on hb, h.g.on hb, h.sx, h.gx, h.sg, h.lx, h.lg⟩
theorem far_of {n base : Nat} {E : TypeId} {v : Value} {xs : List Value} {row : Option Nat} (h : OwnG w base E v n xs) (hg : w.grownBy w' row) (hne : ∀ k, v.ownBlock = some k → row ≠ some k) : OwnG w' base E v n xs := by
  refine h.far hg ?_
  cases hv : v.ownBlock with
  | none => exact .inl rfl
  | some k => exact .inr (fun e => hne k hv e.symm)
theorem St.markX (h : St w0 w b0 bx bg E0 Ex Eg v0 vx vg n0 nx ng xs0 xsx xsg) (hx : OwnG w' bx Ex vx nx xs') (hg : w.grownBy w' vx.ownBlock) : St w0 w' b0 bx bg E0 Ex Eg v0 vx vg n0 nx ng xs0 xs' xsg :=
  ⟨h.bel.grown hg h.bel.size h.lx, far_of h.s hg h.sx, hx, far_of h.g hg h.gx, h.sx, h.gx, h.sg, h.lx, h.lg⟩
theorem St.markG (h : St w0 w b0 bx bg E0 Ex Eg v0 vx vg n0 nx ng xs0 xsx xsg) (hx : OwnG w' bg Eg vg ng xs') (hg : w.grownBy w' vg.ownBlock) : St w0 w' b0 bx bg E0 Ex Eg v0 vx vg n0 nx ng xs0 xsx xs' :=
  ⟨h.bel.grown hg h.bel.size h.lg, far_of h.s hg h.sg, far_of h.x hg (fun k hk e => h.gx k e hk), hx, h.sx, h.gx, h.sg, h.lx, h.lg⟩
end
end Go.Proofs.Ytaflkbemecjcpaa
