/- IsSerializable: the permutations, an iterator that calls itself and yields fresh slices: its contract at one caller. -/
import Derived.RangeFuncNested
import Derived.RangeFuncBound
import Derived.RangeFuncCalls
import Derived.RangeFuncLeaves
import Derived.Shelf.Abstract
import Derived.Shelf.RegionOpen
import Derived.WalkKit
import Derived.OwnWalkIn
import Derived.TacticsInMore
import Derived.LoopNIn
import Derived.LoopIn
import Derived.Maps.AppendAt
import Derived.Laws.EntriesVeiled
import Derived.Test.YtaflkbemecjcpaaSeM
import Derived.Test.YtaflkbemecjcpaaCyJ
namespace Go.Proofs.Ytaflkbemecjcpaa
set_option linter.unusedSimpArgs false
set_option linter.unusedVariables false
open Go.RowKit Go.Shelf
attribute [local go_sem] Oper.semAt_some
theorem rs_room_of_none {F : Fence} (hd : F.depth = none) (k : Nat) : F.room k := fun d h => by rw [hd] at h; cases h
theorem yield_any {m : Nat} (m' : Nat) {P : Program} {l : Nat} {args : Array Value} {W : World} {R : Ending → World → Prop} (h : YieldAt Fence.wide m P l args W R) : YieldAt Fence.wide m' P l args W R := by
  obtain ⟨fn, tmps, assign, body, hy, hR⟩ := h
  exact ⟨fn, tmps, assign, body, hy, hR.1, fun c cs _ => hR.2 c cs (rs_room_of_none rfl _)⟩
/-- What a round keeps: every block at or beyond n₁ that is not the row of the caller's. -/
def Kept (n₁ : Nat) (oB : World → Option Nat) (W W' : World) : Prop := W.heap.size ≤ W'.heap.size ∧ ∀ k, n₁ ≤ k → k < W.heap.size → oB W ≠ some k → W'.heap[k]? = W.heap[k]? ∧ oB W' ≠ some k
theorem Kept.trans {n₁ : Nat} {oB : World → Option Nat} {A B C : World} (h : Kept n₁ oB A B) (k : Kept n₁ oB B C) : Kept n₁ oB A C :=
  ⟨Nat.le_trans h.1 k.1, fun i h1 h2 h3 => by
    obtain ⟨a1, a2⟩ := h.2 i h1 h2 h3
    obtain ⟨b1, b2⟩ := k.2 i h1 (Nat.lt_of_lt_of_le h2 h.1) a2
    exact ⟨b1.trans a1, b2⟩⟩
/-- The caller as the iterator sees it: J W cnt: so many orders have been laid by; oB W: the block of their row. -/
structure SeCall (f : Nat → Nat → Bool) (n₁ l Bl : Nat) (A : Option Addr) (cL : Nat) (L : List Nat) (J : World → Nat → Prop) (oB : World → Option Nat) : Prop where
  step : ∀ W W' cnt row, J W cnt → W.grownBy W' row → (∀ k, row = some k → n₁ ≤ k ∧ oB W ≠ some k) → J W' cnt ∧ oB W' = oB W
  lt : ∀ W cnt, J W cnt → ∀ k, oB W = some k → k < W.heap.size
  n1 : ∀ W cnt, J W cnt → n₁ ≤ W.heap.size
  lst : ∀ W cnt, J W cnt → Bl < n₁ ∧ W.heap[Bl]? = some (.cells #[.slice A L.length cL] 24 (0, 0)) ∧ RdI W n₁ A (ci L)
  yield : ∀ W cnt (q : List Nat) (Ag : Option Addr) (n c : Nat), J W cnt → cnt < 1000 → n = q.length → n ≤ 4 → n ≤ c → RdI W W.heap.size Ag (ci q) → (∀ t ∈ q, t ≤ 3) → YieldAt Fence.wide 0 Try.prog l #[.slice Ag n c] W fun e W' => e = .returned (.bool true) ∧ J W' (cnt + if chkB f [] q then 1 else 0) ∧ Kept n₁ oB W W'
abbrev seClo (bo Bl by_ bf : Nat) : Value := .func (Fn.func 110) #[] #[.pointer (some ⟨bo, 0, none⟩), .pointer (some ⟨Bl, 0, none⟩), .pointer (some ⟨by_, 0, none⟩), .pointer (some ⟨bf, 0, none⟩)]
/-- The iterator's variables: the order in block bo, yield in by_, itself in bf. -/
structure PerAt (W : World) (n₁ l bo Bl by_ bf : Nat) (ob : Option Nat) (Ao : Option Addr) (no co : Nat) (p : List Nat) : Prop where
  xo : W.heap[bo]? = some (.cells #[.slice Ao no co] 24 (0, 0))
  xy : W.heap[by_]? = some (.cells #[.func (.yield l) #[] #[]] 106 (0, 0))
  xf : W.heap[bf]? = some (.cells #[seClo bo Bl by_ bf] 57 (0, 0))
  len : no = p.length
  nn : ∃ g, Ao = some ⟨g, 0, none⟩
  row : AppI W n₁ 3 (.slice Ao no co) (ci p)
  free : ob ≠ some bo ∧ ob ≠ some by_ ∧ ob ≠ some bf
  ne : ∀ k, (Value.slice Ao no co).ownBlock = some k → ob ≠ some k
  op : (Value.slice Ao no co).ownBlock ≠ some bo ∧ (Value.slice Ao no co).ownBlock ≠ some by_ ∧ (Value.slice Ao no co).ownBlock ≠ some bf
  ge : n₁ ≤ bo ∧ n₁ ≤ by_ ∧ n₁ ≤ bf
  d : bo ≠ by_ ∧ bo ≠ bf ∧ by_ ≠ bf
section
variable {W W' : World} {n₁ l bo Bl by_ bf : Nat} {ob : Option Nat} {Ao : Option Addr} {no co : Nat} {p : List Nat}
theorem PerAt.on (h : PerAt W n₁ l bo Bl by_ bf ob Ao no co p) (hb : Below W.heap.size W W') : PerAt W' n₁ l bo Bl by_ bf ob Ao no co p :=
  ⟨(hb.block _ (lt_of_block h.xo)).trans h.xo, (hb.block _ (lt_of_block h.xy)).trans h.xy, (hb.block _ (lt_of_block h.xf)).trans h.xf, h.len, h.nn, h.row.on hb, h.free, h.ne, h.op, h.ge, h.d⟩
theorem PerAt.kept {oB : World → Option Nat} (h : PerAt W n₁ l bo Bl by_ bf (oB W) Ao no co p) (hk : Kept n₁ oB W W') : PerAt W' n₁ l bo Bl by_ bf (oB W') Ao no co p := by
  obtain ⟨g1, g2, g3⟩ := h.ge
  obtain ⟨f1, f2, f3⟩ := h.free
  obtain ⟨a1, b1⟩ := hk.2 bo g1 (lt_of_block h.xo) f1
  obtain ⟨a2, b2⟩ := hk.2 by_ g2 (lt_of_block h.xy) f2
  obtain ⟨a3, b3⟩ := hk.2 bf g3 (lt_of_block h.xf) f3
  refine ⟨a1.trans h.xo, a2.trans h.xy, a3.trans h.xf, h.len, h.nn, ?_, ⟨b1, b2, b3⟩, fun k e => ?_, h.op, h.ge, h.d⟩
  · refine ⟨h.row.1, ?_⟩
    rcases h.row.2 with hn | ⟨g, cap, cur, e, hb, hg, r⟩
    · exact .inl hn
    · have hown : (Value.slice Ao no co).ownBlock = some g := by rw [e]; rfl
      exact .inr ⟨g, cap, cur, e, hb, by rw [(hk.2 g hb (lt_of_block hg) (h.ne g hown)).1]; exact hg, r⟩
  · have hlt := h.row.lt k e
    exact (hk.2 k hlt.1 hlt.2 (h.ne k e)).2
/-- The order's variable is stored anew. -/
theorem PerAt.setO {W1 : World} {A' : Option Addr} {n' c' : Nat} {p' : List Nat} (h : PerAt W n₁ l bo Bl by_ bf ob Ao no co p) (ko : ∃ u, W1.heap[bo]? = some (.cells #[u] 24 (0, 0))) (ky : W1.heap[by_]? = W.heap[by_]?) (kf : W1.heap[bf]? = W.heap[bf]?)
    (hl : n' = p'.length) (hnn : ∃ g, A' = some ⟨g, 0, none⟩) (hp : AppI W1 n₁ 3 (.slice A' n' c') (ci p')) (hne : ∀ k, (Value.slice A' n' c').ownBlock = some k → ob ≠ some k) (ho : ∀ b, b = bo ∨ b = by_ ∨ b = bf → (Value.slice A' n' c').ownBlock ≠ some b) :
    PerAt (W1.setCell ⟨bo, 0, none⟩ (.slice A' n' c')) n₁ l bo Bl by_ bf ob A' n' c' p' := by
  obtain ⟨u, xu⟩ := ko
  obtain ⟨d1, d2, d3⟩ := h.d
  have gs := set_gr W1 bo 0 (.slice A' n' c')
  refine ⟨?_, ?_, ?_, hl, hnn, World.ownsRow.kept hp gs (.inr (ho bo (.inl rfl))), h.free, hne, ⟨ho bo (by simp), ho by_ (by simp), ho bf (by simp)⟩, h.ge, h.d⟩
  · rw [heap_setCell_same W1 bo 0 _ _ _ xu]; rfl
  · exact (Below.heap_setCell W1 _ _ by_ (fun e => d1 e.symm)).trans (ky.trans h.xy)
  · exact (Below.heap_setCell W1 _ _ bf (fun e => d2 e.symm)).trans (kf.trans h.xf)
theorem PerAt.push (h : PerAt W n₁ l bo Bl by_ bf ob Ao no co p) (hol : ∀ k, ob = some k → k < W.heap.size) {x : Obj} {t : Nat} {A' : Option Addr} {c' : Nat} (hO : AppI W' n₁ 3 (.slice A' (no + 1) c') (ci p ++ [(t : Int)])) (hg : (W.alloc x).grownBy W' (Value.slice Ao no co).ownBlock)
    (hv : (Value.slice A' (no + 1) c').ownBlock = (Value.slice Ao no co).ownBlock ∨ ∃ k, (Value.slice A' (no + 1) c').ownBlock = some k ∧ W.heap.size ≤ k) :
    PerAt (W'.setCell ⟨bo, 0, none⟩ (.slice A' (no + 1) c')) n₁ l bo Bl by_ bf ob A' (no + 1) c' (p ++ [t]) ∧ W'.heap[bo]? = W.heap[bo]? := by
  have hz := hg.size
  rw [World.size_alloc] at hz
  have k1 : ∀ b, b < W.heap.size → (Value.slice Ao no co).ownBlock ≠ some b → W'.heap[b]? = W.heap[b]? := fun b hb hne => (hg.block b (by simp; omega) (fun e => hne e.symm)).trans (Below.heap_alloc _ _ _ hb)
  have hn : ∀ b, b < W.heap.size → (Value.slice Ao no co).ownBlock ≠ some b → (Value.slice A' (no + 1) c').ownBlock ≠ some b := fun b hb hne => by
    rcases hv with e | ⟨k, e, hk⟩
    · rw [e]; exact hne
    · rw [e]; intro e'; cases e'; omega
  obtain ⟨o1, o2, o3⟩ := h.op
  have lo := lt_of_block h.xo
  have ly := lt_of_block h.xy
  have lf := lt_of_block h.xf
  have hnn : ∃ g, A' = some ⟨g, 0, none⟩ := by
    have hf : ∃ g cap, Value.slice A' (no + 1) c' = .slice (some ⟨g, 0, none⟩) (no + 1) cap := by
      rcases hO.2 with ⟨e, _⟩ | ⟨g, cap, cur, e, _⟩
      · injection e with _ e2 _; omega
      · injection e with e1 e2 e3; exact ⟨g, c', by rw [e1]⟩
    obtain ⟨g, cap, e⟩ := hf
    injection e with e1 _ _
    exact ⟨g, e1⟩
  refine ⟨h.setO ⟨_, (k1 bo lo o1).trans h.xo⟩ (k1 by_ ly o2) (k1 bf lf o3) (by rw [h.len]; simp) hnn (by rw [ci_app]; exact hO) (fun k e1 e2 => ?_) (fun b hb => ?_), k1 bo lo o1⟩
  · exact hn k (hol k e2) (fun e => h.ne k e e2) e1
  · rcases hb with rfl | rfl | rfl
    · exact hn _ lo o1
    · exact hn _ ly o2
    · exact hn _ lf o3
theorem PerAt.pop {t : Nat} (h : PerAt W n₁ l bo Bl by_ bf ob Ao (no + 1) co (p ++ [t])) : PerAt (W.setCell ⟨bo, 0, none⟩ (.slice Ao no co)) n₁ l bo Bl by_ bf ob Ao no co p := by
  have hO : AppI W n₁ 3 (.slice Ao no co) (ci p) := by
    have hp := h.row
    have hl := h.len
    unfold AppI at hp ⊢
    rw [ci_app] at hp
    simp only [cellsI, List.map_append, List.map_cons, List.map_nil, List.length_append, List.length_cons, List.length_nil, ci_len] at hp hl ⊢
    have e : no = p.length := by omega
    subst e
    exact row_cut hp
  obtain ⟨o1, o2, o3⟩ := h.op
  refine h.setO ⟨_, h.xo⟩ rfl rfl (by have := h.len; simp at this; omega) h.nn hO (fun k e => h.ne k ((own_len _ _ _ _ _).trans e)) (fun b hb e => ?_)
  have e' := (own_len Ao (no + 1) co no co).trans e
  rcases hb with rfl | rfl | rfl
  · exact o1 e'
  · exact o2 e'
  · exact o3 e'
end
end Go.Proofs.Ytaflkbemecjcpaa
