/- Contracts of slices.Index and slices.Contains at operations, and of HasBlind, the reference's and the program's. -/
import Derived.Test.YtafjlklcffbbfaaFilt
namespace Go.Proofs.Ytafjlklcffbbfaa
set_option linter.unusedSimpArgs false
set_option linter.unusedVariables false
open Go.RowKit

/-- '==' at two operations. -/
@[go_sem ↓ high] theorem run_eql_Op (a b c a' b' c' : Int) (W : World) : (binOp .eql 43 (.agg #[.int .i64 a, .int .i64 b, .int .i64 c]) (.agg #[.int .i64 a', .int .i64 b', .int .i64 c'])).run Try.prog W = .ok (.bool (O3.eqb ⟨a, b, c⟩ ⟨a', b', c'⟩)) W := by
  rw [run_eql_struct]
  cases e0 : (a == a') <;> cases e1 : (b == b') <;> cases e2 : (c == c') <;> simp [go_sem, e0, e1, e2, O3.eqb]

set_option maxHeartbeats 400000 in
theorem Index_Op_any (A : Option Addr) (c : Nat) (l : List O3) (x y z : Int) (w : World) (hl : l.length ≤ maxLen) (hR : RdO w w.heap.size A l) :
    Calls Try.prog 79 #[.slice A l.length c, .agg #[.int .i64 x, .int .i64 y, .int .i64 z]] w fun e w' => e = .returned (.int .i64 (idxB (fun o => O3.eqb ⟨x, y, z⟩ o) l)) ∧ Below w.heap.size w w' := by
  unfold maxLen at hl
  go_enter Try.func79, Try.ntmps79
  go_wp2_with fail
  have hb0 : Below w.heap.size w (w.alloc (.cells #[.int .i64 x, .int .i64 y, .int .i64 z] 43)) := by (repeat' (first | (with_reducible exact Below.refl _ _) | (with_reducible assumption) | (with_reducible refine Below.al ?_ _) | (with_reducible refine Below.drew ?_) | (with_reducible refine Below.drN ?_ _) | (with_reducible refine Below.via (by with_reducible assumption) ?_) | (with_reducible refine Below.setc ?_ ?_ _) | (with_reducible exact Nat.le_refl _) | (simp; done) | (simp; omega)))
  have hX0 : ∀ j u, #[Value.int .i64 x, Value.int .i64 y, Value.int .i64 z][j]? = some u → (w.alloc (.cells #[.int .i64 x, .int .i64 y, .int .i64 z] 43)).cell? ⟨w.heap.size, j, none⟩ = some u := fun j u h => by rw [World.cell?_alloc_new]; exact h
  go_loopw [8] (fun i wr => ∃ k : Nat, k ≤ l.length ∧ i = .int .i64 k ∧ (l.take k).findIdx? (fun o => O3.eqb ⟨x, y, z⟩ o) = none ∧ Below w.heap.size w wr ∧ w.heap.size < wr.heap.size ∧ (∀ j u, #[Value.int .i64 x, Value.int .i64 y, Value.int .i64 z][j]? = some u → wr.cell? ⟨w.heap.size, j, none⟩ = some u)) (fun i _ => l.length - (intOf i).toNat)
  case atStart => exact ⟨0, Nat.zero_le _, rfl, rfl, hb0, by simp, hX0⟩
  case round =>
    obtain ⟨k, hk, rfl, hall, hbw, hz, hX⟩ := hrel
    have HA := Lib.hid hall; clear hall
    have HB := Lib.hid hbw; clear hbw hb0 hX0
    have x0 := hX 0 _ rfl; have x1 := hX 1 _ rfl; have x2 := hX 2 _ rfl
    have HX := Lib.hid hX; clear hX
    by_cases hlt : k < l.length
    · obtain ⟨b, off, rfl, hb', h0, h1, h2⟩ := (hR.on HB.out).at_ hlt
      go_wp2_with fail
      ((first | (with_reducible refine wp_region_from (by with_reducible assumption) follows (by kernel_rfl) ?_) | (refine wp_region_aft follows (by kernel_rfl) ?_)); (repeat (go_big_quiet_step (fail))); refine wpQuiet_nil ?_; intro _ hw'; obtain ⟨⟨w1, hb⟩, rfl⟩ := hw'; (try dsimp only); first | (replace hb := Below.via hb (by with_reducible assumption); (try clear hbc hbf hbz); obtain ⟨hbc, hbf, hbz⟩ := bcell hb) | (obtain ⟨hbc, hbf, hbz⟩ := bcell hb))
      go_wp2
      · go_ret
        exact ⟨ret_int (idx_hit hlt HA.out (by assumption)), by have hbw := HB.out; (repeat' (first | (with_reducible exact Below.refl _ _) | (with_reducible assumption) | (with_reducible refine Below.al ?_ _) | (with_reducible refine Below.drew ?_) | (with_reducible refine Below.drN ?_ _) | (with_reducible refine Below.via (by with_reducible assumption) ?_) | (with_reducible refine Below.setc ?_ ?_ _) | (with_reducible exact Nat.le_refl _) | (simp; done) | (simp; omega)))⟩
      · refine ⟨⟨k + 1, by omega, by go_num, idx_on hlt HA.out (by assumption), by have hbw := HB.out; (repeat' (first | (with_reducible exact Below.refl _ _) | (with_reducible assumption) | (with_reducible refine Below.al ?_ _) | (with_reducible refine Below.drew ?_) | (with_reducible refine Below.drN ?_ _) | (with_reducible refine Below.via (by with_reducible assumption) ?_) | (with_reducible refine Below.setc ?_ ?_ _) | (with_reducible exact Nat.le_refl _) | (simp; done) | (simp; omega))), by have := hb.size; omega, fun j u h => ?_⟩, by simp [intOf]; omega⟩
        exact (hb.cell (p := ⟨w.heap.size, j, none⟩) hz).trans (HX.out j u h)
    · have hk' : k = l.length := by omega
      have HK := Lib.hid hk'; clear hk'
      go_wp2
      go_ret
      exact ⟨ret_int (idx_none (by have h := HA.out; rwa [HK.out, List.take_length] at h)), HB.out⟩

/-! ### HasBlind -/
/-- In the first j operations there is a read of what operation k writes. -/
def readB (l : List O3) (j : Nat) (t x : Int) : Bool := (l.take j).any fun p => p.tx == t && (p.kind == 0 && p.item == x)
theorem readB_eq (l : List O3) (j : Nat) (t x : Int) : ((l.take j).any fun o => O3.eqb ⟨t, 0, x⟩ o) = readB l j t x := by
  unfold readB
  congr 1
  funext p
  simp only [O3.eqb]
  rw [BEq.comm (a := t), BEq.comm (a := (0 : Int)), BEq.comm (a := x)]
theorem readB_succ {l : List O3} {j : Nat} (hj : j < l.length) (t x : Int) : readB l (j + 1) t x = (readB l j t x || (l[j].tx == t && (l[j].kind == 0 && l[j].item == x))) := by
  unfold readB
  rw [List.take_succ_eq_append_getElem hj, List.any_append]; simp only [List.any_cons, List.any_nil, Bool.or_false]
def BlindAt (l : List O3) (k : Nat) : Prop := ∃ h : k < l.length, l[k].kind = 1 ∧ readB l k l[k].tx l[k].item = false
def BlindP (l : List O3) : Prop := ∃ k, BlindAt l k

end Go.Proofs.Ytafjlklcffbbfaa
