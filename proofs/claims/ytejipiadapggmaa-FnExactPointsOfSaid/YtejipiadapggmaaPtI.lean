/- slices.Backward at steps: its iterator's contract. -/
import Derived.RangeFuncNested
import Derived.RangeFuncBound
import Derived.RangeFuncCalls
import Derived.RangeFuncLeaves
import Derived.Shelf.Abstract
import Derived.Shelf.RegionOpen
import Derived.WalkKit
import Derived.OwnWalkIn
import Derived.TacticsInMore
import Derived.LoopNIn
import Derived.LoopIn
import Derived.Maps.AppendAt
import Derived.Test.YtejipiadapggmaaBox
import Derived.Test.YtejipiadapggmaaPtP
namespace Go.Proofs.Ytejipiadapggmaa
set_option linter.unusedSimpArgs false
set_option linter.unusedVariables false
open Go.RowKit Go.Shelf
attribute [local go_sem] Oper.semAt_some

/-- WHAT HAS COME WHEN k ROUNDS ARE OVER. -/
def upto {α : Type} (f : Nat → α) (k : Nat) : List α := (List.range k).map f
theorem upto_succ {α : Type} (f : Nat → α) (k : Nat) : upto f (k + 1) = upto f k ++ [f k] := by simp [upto, List.range_succ]
theorem upto_length {α : Type} (f : Nat → α) (k : Nat) : (upto f k).length = k := by simp [upto]
/-- The j-th pair from the end. -/
def bk (l : List O3) (j : Nat) : Int × O3 := (((l.length - 1 - j : Nat) : Int), l[l.length - 1 - j]?.getD ⟨0, 0, 0⟩)
theorem bk_all (l : List O3) : (upto (bk l) l.length).map (·.2) = l.reverse := by
  apply List.ext_getElem
  · simp [upto]
  · intro i h1 h2
    have h3 : i < l.length := by simpa [upto] using h1
    simp [upto, bk, show l.length - 1 - i < l.length by omega]
abbrev encBk (x : Int × O3) : Array Value := #[.int .i64 x.1, .agg #[.int .i64 x.2.tx, .int .i64 x.2.kind, .int .i64 x.2.item]]
/-- What a round that goes on keeps: what lay below n₀, and the box of the list. -/
def KpB (n₀ Bs : Nat) (W W' : World) : Prop := Below n₀ W W' ∧ W'.heap[Bs]? = W.heap[Bs]?
theorem KpB.refl {n₀ Bs : Nat} (W : World) : KpB n₀ Bs W W := ⟨Below.refl _ _, rfl⟩
theorem KpB.trans {n₀ Bs : Nat} {A B C : World} (h : KpB n₀ Bs A B) (k : KpB n₀ Bs B C) : KpB n₀ Bs A C := ⟨h.1.trans k.1, k.2.trans h.2⟩
set_option maxHeartbeats 400000 in
theorem impl_takesP_any (a b c : Int) (w : World) :
    Calls Try.prog 33 #[.agg #[.int .i64 a, .int .i64 b, .int .i64 c]] w fun e w' => e = .returned (.bool (takesP ⟨a, b, c⟩)) ∧ Below w.heap.size w w' := by
  go_enter Try.func33, Try.ntmps33
  go_wp2
  all_goals (go_ret; exact ⟨ret_bool (by simp [takesP, *]; try omega), by (repeat' (first | (with_reducible exact Below.refl _ _) | (with_reducible assumption) | (with_reducible refine Below.al ?_ _) | (with_reducible refine Below.drew ?_) | (with_reducible refine Below.drN ?_ _) | (with_reducible refine Below.via (by with_reducible assumption) ?_) | (with_reducible refine Below.setc ?_ ?_ _) | (with_reducible exact Nat.le_refl _) | (simp; done) | (simp; omega)))⟩)
set_option maxRecDepth 100000 in
set_option maxHeartbeats 2000000 in
theorem Backward1_in (n : Nat) (hn : 1 ≤ n) (l0 Bs n₀ c : Nat) (A : Option Addr) (l : List O3) (hl : l.length ≤ maxLen) (J Jx : List (Int × O3) → World → Prop)
    (hY : ∀ pre x W, J pre W → pre.length < l.length → YieldAt Fence.wide (n - 1) Try.prog l0 (encBk x) W fun e W' =>
      (e = .returned (.bool true) ∧ J (pre ++ [x]) W' ∧ KpB n₀ Bs W W') ∨ (e = .returned (.bool false) ∧ Jx (pre ++ [x]) W'))
    (W : World) (hBs : Boxed W Bs 26 (.slice A l.length c)) (hR : RdO W n₀ A l) (h0 : J [] W) :
    CallsIn Fence.wide n Try.prog 60 #[.func (.yield l0) #[] #[], .pointer (some ⟨Bs, 0, none⟩)] W fun e W' => (∃ v, e = .returned v) ∧
      ((∃ ys, ys = upto (bk l) l.length ∧ J ys W') ∨ (∃ pre, True ∧ Jx pre W')) := by
  unfold maxLen at hl
  have hBc := hBs.cell
  refine callsIn_of_wp Try.func60 rfl trivial ?_ rfl
  simp only [Try.ntmps60, List.size_toArray, List.length_cons, List.length_nil, Nat.reduceAdd, Nat.reduceSub, Array.replicate_succ, Array.replicate_zero, List.push_toArray, List.append_toArray, List.nil_append, List.cons_append]
  gi_wp2
  gi_loopw [3] (fun i wr => ∃ m : Nat, m ≤ l.length ∧ i = .int .i64 ((m : Int) - 1) ∧ J (upto (bk l) (l.length - m)) wr ∧ KpB n₀ Bs W wr)
    (fun i _ => (intOf i + 1).toNat)
  case atStart => exact ⟨l.length, Nat.le_refl _, rfl, by rw [Nat.sub_self]; exact h0, KpB.refl _⟩
  case round =>
    obtain ⟨m, hm, hi, hJs, hnx⟩ := hrel
    cases m with
    | zero =>
      have hi' := hi.trans (show Value.int .i64 (((0 : Nat) : Int) - 1) = .int .i64 (-1) from rfl)
      clear hi
      subst hi'
      gi_wp2
      go_end0
      exact ⟨⟨_, rfl⟩, .inl ⟨_, rfl, hJs⟩⟩
    | succ m =>
      have hi' := hi.trans (show Value.int .i64 (((m + 1 : Nat) : Int) - 1) = .int .i64 (m : Int) by congr 1; omega)
      clear hi
      subst hi'
      have hml : m < l.length := by omega
      have hcB : wr.cell? ⟨Bs, 0, none⟩ = some (.slice A l.length c) := (Boxed.cell (hnx.2.trans hBs))
      obtain ⟨b, off, rfl, hb, h0', h1', h2'⟩ := (hR.below hnx.1 (Nat.le_refl _)).at_ hml
      have hx : bk l (l.length - (m + 1)) = ((m : Int), l[m]) := by
        have e : l.length - 1 - (l.length - (m + 1)) = m := by omega
        simp [bk, e, hml]
      have hs : upto (bk l) (l.length - m) = upto (bk l) (l.length - (m + 1)) ++ [((m : Int), l[m])] := by
        rw [show l.length - m = l.length - (m + 1) + 1 by omega, upto_succ, hx]
      obtain ⟨fn, tmps, assign, body, hy, hRd⟩ := hY _ ((m : Int), l[m]) wr hJs (by rw [upto_length]; omega)
      dsimp only [encBk] at hy
      clear hJs hx hm
      gi_wp2
      refine hRd.mono ?_
      rintro e W3 (⟨rfl, hJ3, hk3⟩ | ⟨rfl, hJx3⟩)
      · gi_wp2
        go_roundw
        case rel => exact ⟨m, by omega, rfl, by rw [hs]; exact hJ3, hnx.trans hk3⟩
        case measure => first | (simp [intOf]; done) | (simp [intOf]; omega)
      · gi_wp2
        refine bodyPost_ret (results_none rfl _ _ _) rfl ?_
        exact ⟨⟨_, rfl⟩, .inr ⟨_, trivial, hJx3⟩⟩

set_option maxHeartbeats 1000000 in
theorem Backward_in (n : Nat) (A : Option Addr) (len c : Nat) (w : World) :
    CallsIn Fence.wide n Try.prog 32 #[.slice A len c] w fun e w' => e = .returned (.func (.func 60) #[] #[.pointer (some ⟨w.heap.size, 0, none⟩)]) ∧ w' = w.alloc (.cells #[.slice A len c] 26) := by
  refine callsIn_of_wp Try.func32 rfl trivial ?_ rfl
  simp only [Try.ntmps32, List.size_toArray, List.length_cons, List.length_nil, Nat.reduceAdd, Nat.reduceSub, Array.replicate_succ, Array.replicate_zero, List.push_toArray, List.append_toArray, List.nil_append, List.cons_append]
  gi_wp2
  go_ret
  exact ⟨rfl, rfl⟩

theorem Backward_stops (n : Nat) (hn : 1 ≤ n) (Bs n₀ c : Nat) (A : Option Addr) (l : List O3) (hl : l.length ≤ maxLen) (w : World) (hn₀ : n₀ ≤ w.heap.size)
    (hBs : Boxed w Bs 26 (.slice A l.length c)) (hR : RdO w n₀ A l) :
    SeqStopsK Fence.wide n Try.prog 60 #[.pointer (some ⟨Bs, 0, none⟩)] encBk (KpB n₀ Bs) (fun ys => ys = upto (bk l) l.length) (fun pre => True) l.length w := fun l0 J Jx W hW _ _ hY h0 =>
  Backward1_in n hn l0 Bs n₀ c A l hl J Jx hY W ((hW.block Bs hBs.lt).trans hBs) (hR.below (hW.mono hn₀) (Nat.le_refl _)) h0
end Go.Proofs.Ytejipiadapggmaa
