/- Operations that may be no schedule: what the drawn laws ask about. -/
import Derived.Test.YtaflkbemecjcpaaGood
namespace Go.Proofs.Ytaflkbemecjcpaa
set_option linter.unusedSimpArgs false
set_option linter.unusedVariables false
open Go.RowKit

theorem cellsO_set0 : ∀ (l : List O3) (k : Nat) (a : Int) (h : k < l.length), (cellsO l).set (k * 3) (.int .i64 a) = cellsO (l.set k ⟨a, l[k].kind, l[k].item⟩)
  | o :: l, 0, a, _ => by rw [cellsO_cons]; simp [cellsO_cons]
  | o :: l, k + 1, a, h => by
    have ih := cellsO_set0 l k a (by simpa using h)
    rw [cellsO_cons, show (k + 1) * 3 = k * 3 + 3 by omega]
    simpa [cellsO_cons] using ih
theorem cellsO_set1 : ∀ (l : List O3) (k : Nat) (a : Int) (h : k < l.length), (cellsO l).set (k * 3 + 1) (.int .i64 a) = cellsO (l.set k ⟨l[k].tx, a, l[k].item⟩)
  | o :: l, 0, a, _ => by rw [cellsO_cons]; simp [cellsO_cons]
  | o :: l, k + 1, a, h => by
    have ih := cellsO_set1 l k a (by simpa using h)
    rw [cellsO_cons, show (k + 1) * 3 + 1 = k * 3 + 1 + 3 by omega]
    simpa [cellsO_cons] using ih
theorem cellsO_set2 : ∀ (l : List O3) (k : Nat) (a : Int) (h : k < l.length), (cellsO l).set (k * 3 + 2) (.int .i64 a) = cellsO (l.set k ⟨l[k].tx, l[k].kind, a⟩)
  | o :: l, 0, a, _ => by rw [cellsO_cons]; simp [cellsO_cons]
  | o :: l, k + 1, a, h => by
    have ih := cellsO_set2 l k a (by simpa using h)
    rw [cellsO_cons, show (k + 1) * 3 + 2 = k * 3 + 2 + 3 by omega]
    simpa [cellsO_cons] using ih
theorem OwnO.gr {w w1 : World} {B g : Nat} {E : TypeId} {v : Value} {l : List O3} (h : OwnO w B E v l) (hg : w.grownBy w1 (some g)) (hB : g < B) : OwnO w1 B E v l :=
  far_of h hg (fun k hk => by have := (OwnG.own_lt h k hk).1; simp; omega)
theorem gr_st' {w w1 : World} {row : Option Nat} {B b : Nat} (h : w.grownBy w1 row) (hB : w.heap.size ≤ B) (hb : B ≤ b) (j : Nat) (u : Value) : w.grownBy (w1.setCell ⟨b, j, none⟩ u) row := gr_st h _ _ (by show w.heap.size ≤ b; omega)
set_option maxRecDepth 100000 in
set_option maxHeartbeats 2000000 in
theorem bent_any (g P B c : Nat) (A : Option Addr) (l : List O3) (w0 w : World) (hP : P < 900000) (hl : l.length ≤ 1000) (hgB : g < B) (hO : OwnO w B 40 (.slice A l.length c) l) (hr : RdrAt w g P) (hw : w0.grownBy w (some g)) (hwB : w0.heap.size ≤ B) :
    Calls Try.prog 73 #[.pointer (some ⟨g, 0, none⟩), .slice A l.length c] w fun e w' => (∃ l' P', e = .returned (.slice A l'.length c) ∧ l'.length = l.length ∧ OwnO w' B 40 (.slice A l'.length c) l' ∧ RdrAt w' g P' ∧ P' ≤ P + 3) ∧ w0.grownBy w' (some g) := by
  have HO := Lib.hid hO; clear hO
  have HW := Lib.hid hw; clear hw
  go_enter Try.func73, Try.ntmps73
  go_wp2_with fail
  refine (pick_any g P 40 _ (by omega) (by omega) hr).mono ?_
  rintro e w1 ⟨⟨x, rfl, _, _⟩, hr1, hg1⟩
  have O1 := Lib.hid (OwnO.gr HO.out hg1 hgB); clear HO
  have W1 := Lib.hid (HW.out.trans hg1); clear HW hg1
  by_cases h0 : l.length = 0
  · by_cases e0 : x = 0
    · subst e0
      go_wp2
      go_ret
      exact ⟨⟨l, P + 1, by first | rfl | (rw [h0]; rfl), rfl, O1.out, hr1, by omega⟩, W1.out⟩
    · by_cases e1 : x = 1
      · subst e1
        go_wp2
        go_ret
        exact ⟨⟨l, P + 1, by first | rfl | (rw [h0]; rfl), rfl, O1.out, hr1, by omega⟩, W1.out⟩
      · by_cases e2 : x = 2
        · subst e2
          go_wp2
          go_ret
          exact ⟨⟨l, P + 1, by first | rfl | (rw [h0]; rfl), rfl, O1.out, hr1, by omega⟩, W1.out⟩
        · go_wp2
          go_ret
          exact ⟨⟨l, P + 1, by first | rfl | (rw [h0]; rfl), rfl, O1.out, hr1, by omega⟩, W1.out⟩
  · by_cases e0 : x = 0
    · subst e0
      go_wp2_with fail
      refine (pick_any g (P + 1) l.length _ (by omega) (by omega) hr1).mono ?_
      rintro e w2 ⟨⟨y, rfl, y0, y1⟩, hr2, hg2⟩
      obtain ⟨k, rfl⟩ : ∃ k : Nat, y = k := ⟨y.toNat, by omega⟩
      have hk : k < l.length := by have := y1 (by omega); omega
      clear y0 y1
      have O2 := Lib.hid (OwnO.gr O1.out hg2 hgB); clear O1
      have W2 := Lib.hid (W1.out.trans hg2); clear W1 hg2
      go_wp2_with fail
      refine (one_any g (P + 1 + 1) _ _ [4, -1, 2] _ (by omega) (by simp) (by simp) (hr2.al _) (lit_at _ _ _ (by simp)) (by rintro b off ⟨⟩; have := hr2.lt; simp; omega)).mono ?_
      rintro e w3 ⟨⟨v, rfl, _⟩, hr3, hg3⟩
      have O3 := Lib.hid (OwnO.gr (O2.out.alloc _) hg3 hgB); clear O2
      have W3 := Lib.hid (show w0.grownBy w3 (some g) by have h := W2.out; (repeat' (first | (with_reducible exact World.grownBy.refl _ _) | (with_reducible assumption) | (with_reducible refine gr_al ?_ _) | (with_reducible refine gr_st ?_ _ _ ?_) | (with_reducible refine gr_dr ?_) | (with_reducible refine World.grownBy.trans ?_ (by with_reducible assumption)) | (with_reducible refine gr_be ?_ (by with_reducible assumption)) | (with_reducible exact Nat.le_refl _) | (simp; done) | (simp; omega)))); clear W2 hg3
      obtain ⟨b, c', he, hbB, hbz, q0, q1, q2, hf⟩ := O3.out.at_ hk
      injection he with he1 _ he3
      subst he1 he3
      have hfz := hf (k * 3 + 1)
      have hbg : g < b := by omega
      go_wp2
      go_ret
      have hs := OwnG.stored O3.out (k * 3 + 1) (.int .i64 v)
      rw [cellsO_set1 l k v hk] at hs
      refine ⟨⟨l.set k ⟨l[k].tx, v, l[k].item⟩, P + 1 + 1 + 1, by simp, by simp, ?_, hr3.st _ _ hbg, by omega⟩, gr_st' W3.out hwB hbB _ _⟩
      unfold OwnO
      rw [List.length_set]
      exact hs
    · by_cases e1 : x = 1
      · subst e1
        go_wp2_with fail
        refine (pick_any g (P + 1) l.length _ (by omega) (by omega) hr1).mono ?_
        rintro e w2 ⟨⟨y, rfl, y0, y1⟩, hr2, hg2⟩
        obtain ⟨k, rfl⟩ : ∃ k : Nat, y = k := ⟨y.toNat, by omega⟩
        have hk : k < l.length := by have := y1 (by omega); omega
        clear y0 y1
        have O2 := Lib.hid (OwnO.gr O1.out hg2 hgB); clear O1
        have W2 := Lib.hid (W1.out.trans hg2); clear W1 hg2
        go_wp2_with fail
        refine (one_any g (P + 1 + 1) _ _ [4, -1, 0] _ (by omega) (by simp) (by simp) (hr2.al _) (lit_at _ _ _ (by simp)) (by rintro b off ⟨⟩; have := hr2.lt; simp; omega)).mono ?_
        rintro e w3 ⟨⟨v, rfl, _⟩, hr3, hg3⟩
        have O3 := Lib.hid (OwnO.gr (O2.out.alloc _) hg3 hgB); clear O2
        have W3 := Lib.hid (show w0.grownBy w3 (some g) by have h := W2.out; (repeat' (first | (with_reducible exact World.grownBy.refl _ _) | (with_reducible assumption) | (with_reducible refine gr_al ?_ _) | (with_reducible refine gr_st ?_ _ _ ?_) | (with_reducible refine gr_dr ?_) | (with_reducible refine World.grownBy.trans ?_ (by with_reducible assumption)) | (with_reducible refine gr_be ?_ (by with_reducible assumption)) | (with_reducible exact Nat.le_refl _) | (simp; done) | (simp; omega)))); clear W2 hg3
        obtain ⟨b, c', he, hbB, hbz, q0, q1, q2, hf⟩ := O3.out.at_ hk
        injection he with he1 _ he3
        subst he1 he3
        have hfz := hf (k * 3)
        have hbg : g < b := by omega
        go_wp2
        go_ret
        have hs := OwnG.stored O3.out (k * 3) (.int .i64 v)
        rw [cellsO_set0 l k v hk] at hs
        refine ⟨⟨l.set k ⟨v, l[k].kind, l[k].item⟩, P + 1 + 1 + 1, by simp, by simp, ?_, hr3.st _ _ hbg, by omega⟩, gr_st' W3.out hwB hbB _ _⟩
        unfold OwnO
        rw [List.length_set]
        exact hs
      · by_cases e2 : x = 2
        · subst e2
          go_wp2_with fail
          refine (pick_any g (P + 1) l.length _ (by omega) (by omega) hr1).mono ?_
          rintro e w2 ⟨⟨y, rfl, y0, y1⟩, hr2, hg2⟩
          obtain ⟨k, rfl⟩ : ∃ k : Nat, y = k := ⟨y.toNat, by omega⟩
          have hk : k < l.length := by have := y1 (by omega); omega
          clear y0 y1
          have O2 := Lib.hid (OwnO.gr O1.out hg2 hgB); clear O1
          have W2 := Lib.hid (W1.out.trans hg2); clear W1 hg2
          go_wp2_with fail
          refine (one_any g (P + 1 + 1) _ _ [3, -1, 1] _ (by omega) (by simp) (by simp) (hr2.al _) (lit_at _ _ _ (by simp)) (by rintro b off ⟨⟩; have := hr2.lt; simp; omega)).mono ?_
          rintro e w3 ⟨⟨v, rfl, _⟩, hr3, hg3⟩
          have O3 := Lib.hid (OwnO.gr (O2.out.alloc _) hg3 hgB); clear O2
          have W3 := Lib.hid (show w0.grownBy w3 (some g) by have h := W2.out; (repeat' (first | (with_reducible exact World.grownBy.refl _ _) | (with_reducible assumption) | (with_reducible refine gr_al ?_ _) | (with_reducible refine gr_st ?_ _ _ ?_) | (with_reducible refine gr_dr ?_) | (with_reducible refine World.grownBy.trans ?_ (by with_reducible assumption)) | (with_reducible refine gr_be ?_ (by with_reducible assumption)) | (with_reducible exact Nat.le_refl _) | (simp; done) | (simp; omega)))); clear W2 hg3
          obtain ⟨b, c', he, hbB, hbz, q0, q1, q2, hf⟩ := O3.out.at_ hk
          injection he with he1 _ he3
          subst he1 he3
          have hfz := hf (k * 3 + 2)
          have hbg : g < b := by omega
          go_wp2
          go_ret
          have hs := OwnG.stored O3.out (k * 3 + 2) (.int .i64 v)
          rw [cellsO_set2 l k v hk] at hs
          refine ⟨⟨l.set k ⟨l[k].tx, l[k].kind, v⟩, P + 1 + 1 + 1, by simp, by simp, ?_, hr3.st _ _ hbg, by omega⟩, gr_st' W3.out hwB hbB _ _⟩
          unfold OwnO
          rw [List.length_set]
          exact hs
        · go_wp2
          go_ret
          exact ⟨⟨l, P + 1, by first | rfl | (rw [h0]; rfl), rfl, O1.out, hr1, by omega⟩, W1.out⟩
set_option maxRecDepth 100000 in
set_option maxHeartbeats 1000000 in
theorem someSchedule_any (g P : Nat) (w : World) (hP : P < 600000) (hr : RdrAt w g P) :
    Calls Try.prog 43 #[.pointer (some ⟨g, 0, none⟩)] w fun e w' => (∃ A c l P', e = .returned (.slice A l.length c) ∧ OwnO w' w.heap.size 40 (.slice A l.length c) l ∧ l.length ≤ 16 ∧ RdrAt w' g P' ∧ P' ≤ P + 4000) ∧ w.grownBy w' (some g) := by
  have hz := hr.lt
  go_enter Try.func43, Try.ntmps43
  go_wp2_with fail
  refine (goodSchedule_any g P 16 _ (by omega) (by omega) hr).mono ?_
  rintro e w1 ⟨⟨A, c, l, P1, rfl, hO, hl, hr1, hP1⟩, hg1⟩
  go_wp2_with fail
  refine (bent_any g P1 w.heap.size c A l w _ (by omega) (by omega) hz hO hr1 hg1 (Nat.le_refl _)).mono ?_
  rintro e w2 ⟨⟨l', P2, rfl, hl2, hO2, hr2, hP2⟩, hg2⟩
  go_wp2
  go_ret
  exact ⟨⟨A, c, l', P2, by first | rfl | (rw [hl2]; rfl), hO2, by omega, hr2, by omega⟩, hg2⟩
theorem OwnO.cap {w : World} {B c : Nat} {A : Option Addr} {E : TypeId} {l : List O3} (h : OwnO w B E (.slice A l.length c) l) : l.length ≤ c := by
  obtain ⟨A', c', e, h1, _⟩ := h.reads
  injection e with _ _ e
  subst e
  exact h1.1
set_option maxRecDepth 100000 in
set_option maxHeartbeats 400000 in
theorem DrawGraphOf_any (A : Option Addr) (c n : Nat) (w : World) (hc : n ≤ c) (hl : n ≤ maxLen) (hR : RdB w w.heap.size A n) :
    Calls Try.prog 19 #[.slice A n c] w fun e w' => (∃ A' c' l, e = .returned (.slice A' l.length c') ∧ l.length ≤ 16 ∧ l.length ≤ c' ∧ RdO w' w'.heap.size A' l) ∧ Below w.heap.size w w' := by
  go_enter Try.func19, Try.ntmps19
  go_wp2_with fail
  refine (newReader_any A c n _ hc hl hR).mono ?_
  rintro e w1 ⟨⟨rfl, hr1⟩, hb1⟩
  go_wp2_with fail
  refine (someSchedule_any w.heap.size 0 _ (by omega) hr1).mono ?_
  rintro e w2 ⟨⟨A', c', l, P', rfl, hO, hl', _, _⟩, hg2⟩
  go_wp2
  go_ret
  exact ⟨⟨A', c', l, rfl, hl', hO.cap, hO.rd⟩, hb1.grown hg2 hb1.size (fun k hk => by simp at hk; omega)⟩
end Go.Proofs.Ytaflkbemecjcpaa
