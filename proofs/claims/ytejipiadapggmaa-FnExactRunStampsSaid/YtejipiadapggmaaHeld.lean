/- Who holds a lock: the plain side, the table of locks in memory, and the contracts of HeldAt, the reference's and the program's. -/
import Derived.Test.YtejipiadapggmaaSteps
import Derived.Test.YtejipiadapggmaaSch
namespace Go.Proofs.Ytejipiadapggmaa
set_option linter.unusedSimpArgs false
set_option linter.unusedVariables false
open Go.RowKit

/-! ### The plain side -/
/-- The lock of a transaction on an item behind the first k steps, or -1. -/
def heldTo (l : List O3) (t x : Int) : Nat → Int
  | 0 => -1
  | k + 1 => if h : k < l.length then
      (if (l[k].tx == t && l[k].item == x) = true then (if (l[k].kind == 2) = true then -1 else if l[k].kind ≤ 1 then l[k].kind else heldTo l t x k) else heldTo l t x k)
    else heldTo l t x k
theorem held_free {l : List O3} {t x : Int} {k : Nat} (hk : k < l.length) (h1 : (l[k].tx == t) = true) (h2 : (l[k].item == x) = true) (h3 : (l[k].kind == 2) = true) : heldTo l t x (k + 1) = -1 := by
  simp only [heldTo, hk, h1, h2, h3, dite_true, Bool.and_self, if_true]
theorem held_lock {l : List O3} {t x : Int} {k : Nat} (hk : k < l.length) (h1 : (l[k].tx == t) = true) (h2 : (l[k].item == x) = true) (h3 : l[k].kind ≤ 1) : heldTo l t x (k + 1) = l[k].kind := by
  have h4 : (l[k].kind == 2) = false := by rw [beq_eq_false_iff_ne]; omega
  simp only [heldTo, hk, h1, h2, h3, h4, dite_true, Bool.and_self, if_true, Bool.false_eq_true, if_false]
theorem held_tx {l : List O3} {t x : Int} {k : Nat} (hk : k < l.length) (h1 : (l[k].tx == t) = false) : heldTo l t x (k + 1) = heldTo l t x k := by
  simp only [heldTo, hk, h1, dite_true, Bool.false_and, Bool.false_eq_true, if_false]
theorem held_item {l : List O3} {t x : Int} {k : Nat} (hk : k < l.length) (h2 : (l[k].item == x) = false) : heldTo l t x (k + 1) = heldTo l t x k := by
  simp only [heldTo, hk, h2, dite_true, Bool.and_false, Bool.false_eq_true, if_false]
theorem held_other {l : List O3} {t x : Int} {k : Nat} (hk : k < l.length) (h3 : ¬ l[k].kind ≤ 1) (h4 : (l[k].kind == 2) = false) : heldTo l t x (k + 1) = heldTo l t x k := by
  simp only [heldTo, hk, h3, h4, dite_true, Bool.false_eq_true, if_false, ite_self]
theorem held_vals (l : List O3) (hv : l.all stepB = true) (t x : Int) (k : Nat) : heldTo l t x k = -1 ∨ heldTo l t x k = 0 ∨ heldTo l t x k = 1 := by
  induction k with
  | zero => exact .inl rfl
  | succ k ih =>
    unfold heldTo
    split
    · rename_i hk
      have hs := (steps_at hv hk).2.1
      split
      · split
        · exact .inl rfl
        · split
          · omega
          · exact ih
      · exact ih
    · exact ih
theorem held_out {l : List O3} (hv : l.all stepB = true) {t x : Int} (h : ¬ (0 ≤ t ∧ t ≤ 3 ∧ 0 ≤ x ∧ x ≤ 2)) (k : Nat) : heldTo l t x k = -1 := by
  induction k with
  | zero => rfl
  | succ k ih =>
    by_cases hk : k < l.length
    · have hs := steps_at hv hk
      by_cases e1 : l[k].tx = t
      · by_cases e2 : l[k].item = x
        · exfalso; apply h; omega
        · rw [held_item hk (by simpa using e2)]; exact ih
      · rw [held_tx hk (by simpa using e1)]; exact ih
    · simp only [heldTo, hk, dite_false]; exact ih

/-! ### The table of locks in memory -/
/-- Twelve numbers in a block of their own. -/
def TabAt (w : World) (g : Nat) (E : TypeId) (F : Int → Int → Int) : Prop :=
  w.heap[g]? = some (.cells #[.int .i64 (F 0 0), .int .i64 (F 0 1), .int .i64 (F 0 2), .int .i64 (F 1 0), .int .i64 (F 1 1), .int .i64 (F 1 2), .int .i64 (F 2 0), .int .i64 (F 2 1), .int .i64 (F 2 2), .int .i64 (F 3 0), .int .i64 (F 3 1), .int .i64 (F 3 2)] E (0, 0))
theorem TabAt.cell {w : World} {g : Nat} {E : TypeId} {F : Int → Int → Int} (h : TabAt w g E F) {n m : Nat} (hn : n < 4) (hm : m < 3) : w.cell? ⟨g, n * 3 + m, none⟩ = some (.int .i64 (F n m)) ∧ ∀ j, w.frozen? ⟨g, j, none⟩ = false := by
  refine ⟨?_, fun j => frozen_of_row w g j _ _ h⟩
  rw [cell_of_row w g _ _ _ (0, 0) h]
  match n, hn, m, hm with
  | 0, _, 0, _ => rfl
  | 0, _, 1, _ => rfl
  | 0, _, 2, _ => rfl
  | 1, _, 0, _ => rfl
  | 1, _, 1, _ => rfl
  | 1, _, 2, _ => rfl
  | 2, _, 0, _ => rfl
  | 2, _, 1, _ => rfl
  | 2, _, 2, _ => rfl
  | 3, _, 0, _ => rfl
  | 3, _, 1, _ => rfl
  | 3, _, 2, _ => rfl
theorem TabAt.drew {w : World} {g : Nat} {E : TypeId} {F : Int → Int → Int} (h : TabAt w g E F) : TabAt w.drew g E F := h
theorem TabAt.on {w w' : World} {g : Nat} {E : TypeId} {F : Int → Int → Int} (h : TabAt w g E F) (hb : Below w.heap.size w w') : TabAt w' g E F := (hb.block g (lt_of_block h)).trans h
theorem TabAt.lt {w : World} {g : Nat} {E : TypeId} {F : Int → Int → Int} (h : TabAt w g E F) : g < w.heap.size := lt_of_block h
/-- one of them stored anew -/
theorem TabAt.set_ {w : World} {g : Nat} {E : TypeId} {F G : Int → Int → Int} (h : TabAt w g E F) {n m : Nat} (hn : n < 4) (hm : m < 3) {v : Int}
    (hG : ∀ t x : Int, G t x = if t = n ∧ x = m then v else F t x) : TabAt (w.setCell ⟨g, n * 3 + m, none⟩ (.int .i64 v)) g E G := by
  have hs := heap_setCell_same w g (n * 3 + m) _ _ (.int .i64 v) h
  unfold TabAt
  rw [hs]
  simp only [hG]
  match n, hn, m, hm with
  | 0, _, 0, _ => simp
  | 0, _, 1, _ => simp
  | 0, _, 2, _ => simp
  | 1, _, 0, _ => simp
  | 1, _, 1, _ => simp
  | 1, _, 2, _ => simp
  | 2, _, 0, _ => simp
  | 2, _, 1, _ => simp
  | 2, _, 2, _ => simp
  | 3, _, 0, _ => simp
  | 3, _, 1, _ => simp
  | 3, _, 2, _ => simp

/-- What taking a step makes of a table. -/
def takeF (F : Int → Int → Int) (tx kind item : Int) : Int → Int → Int := fun t x => if t = tx ∧ x = item then (if kind ≤ 1 then kind else if kind = 2 then -1 else F t x) else F t x
theorem held_take {l : List O3} {k : Nat} (hk : k < l.length) : (fun t x => heldTo l t x (k + 1)) = takeF (fun t x => heldTo l t x k) l[k].tx l[k].kind l[k].item := by
  funext t x
  unfold takeF
  by_cases e1 : t = l[k].tx
  · by_cases e2 : x = l[k].item
    · rw [if_pos ⟨e1, e2⟩]
      by_cases e3 : l[k].kind ≤ 1
      · rw [if_pos e3, held_lock hk (by simp [e1]) (by simp [e2]) e3]
      · by_cases e4 : l[k].kind = 2
        · rw [if_neg e3, if_pos e4, held_free hk (by simp [e1]) (by simp [e2]) (by simp [e4])]
        · rw [if_neg e3, if_neg e4, held_other hk e3 (by simp [e4])]
    · rw [if_neg (fun h => e2 h.2), held_item hk (by rw [beq_eq_false_iff_ne]; exact fun h => e2 h.symm)]
  · rw [if_neg (fun h => e1 h.1), held_tx hk (by rw [beq_eq_false_iff_ne]; exact fun h => e1 h.symm)]

/-! ### The walks -/
set_option maxHeartbeats 1000000 in
theorem spec_held_any (A : Option Addr) (c : Nat) (l : List O3) (i : Nat) (t x : Int) (w : World) (hi : i ≤ l.length) (hl : l.length ≤ maxLen) (hR : RdO w w.heap.size A l) :
    Calls Try.prog 49 #[.slice A l.length c, .int .i64 i, .int .i64 t, .int .i64 x] w fun e w' => e = .returned (.int .i64 (heldTo l t x i)) ∧ w = w' := by
  unfold maxLen at hl
  go_enter Try.func49, Try.ntmps49
  go_wp2_with fail
  go_loop [9, 10] (fun v n => ∃ k : Nat, k ≤ i ∧ n = .int .i64 k ∧ v = .int .i64 (heldTo l t x k)) (fun _ n => i - (intOf n).toNat)
  case atStart => exact ⟨0, Nat.zero_le _, rfl, rfl⟩
  case round =>
    obtain ⟨k, hk, rfl, rfl⟩ := hrel
    by_cases hlt : k < i
    · have hkl : k < l.length := by omega
      obtain ⟨b, off, rfl, hb, h0, h1, h2⟩ := hR.at_ hkl
      rcases and2 (l[k].tx == t) (l[k].item == x) with e1 | ⟨e1, e2⟩ | ⟨e1, e2⟩
      · have HS := Lib.hid (held_tx (x := x) hkl e1)
        go_wp2
        exact ⟨⟨k + 1, by omega, by go_num, by rw [HS.out]⟩, by simp [intOf]; omega⟩
      · have HS := Lib.hid (held_item (t := t) hkl e2)
        go_wp2
        exact ⟨⟨k + 1, by omega, by go_num, by rw [HS.out]⟩, by simp [intOf]; omega⟩
      · cases e3 : (l[k].kind == 2)
        · by_cases e4 : l[k].kind ≤ 1
          · have HS := Lib.hid (held_lock hkl e1 e2 e4)
            go_wp2
            exact ⟨⟨k + 1, by omega, by go_num, by rw [HS.out]⟩, by simp [intOf]; omega⟩
          · have HS := Lib.hid (held_other (t := t) (x := x) hkl e4 e3)
            go_wp2
            exact ⟨⟨k + 1, by omega, by go_num, by rw [HS.out]⟩, by simp [intOf]; omega⟩
        · have HS := Lib.hid (held_free hkl e1 e2 e3)
          go_wp2
          exact ⟨⟨k + 1, by omega, by go_num, by rw [HS.out]⟩, by simp [intOf]; omega⟩
    · have hk' : k = i := by omega
      subst hk'
      go_wp2
      go_ret
      exact ⟨rfl, rfl⟩
set_option maxHeartbeats 400000 in
theorem impl_takes_held (a b c : Int) (w : World) :
    Calls Try.prog 33 #[.agg #[.int .i64 a, .int .i64 b, .int .i64 c]] w fun e w' => e = .returned (.bool (b == 0 || b == 1)) ∧ Below w.heap.size w w' := by
  go_enter Try.func33, Try.ntmps33
  go_wp2
  all_goals (go_ret; exact ⟨ret_bool (by simp [*]; try omega), by (repeat' (first | (with_reducible exact Below.refl _ _) | (with_reducible assumption) | (with_reducible refine Below.al ?_ _) | (with_reducible refine Below.drew ?_) | (with_reducible refine Below.drN ?_ _) | (with_reducible refine Below.via (by with_reducible assumption) ?_) | (with_reducible refine Below.setc ?_ ?_ _) | (with_reducible exact Nat.le_refl _) | (simp; done) | (simp; omega)))⟩)
theorem below_drew {B : Nat} {a w : World} (h : Below B a w) : Below B a w.drew := Below.drew h
set_option maxHeartbeats 1000000 in
theorem impl_take_any (g n m : Nat) (kind : Int) (F : Int → Int → Int) (w : World) (B : Nat) (hB : B ≤ g) (hn : n < 4) (hm : m < 3) (hk : 0 ≤ kind) (hT : TabAt w g 96 F) :
    Calls Try.prog 52 #[.pointer (some ⟨g, 0, none⟩), .agg #[.int .i64 n, .int .i64 kind, .int .i64 m]] w fun e w' => (∃ v, e = .returned v) ∧ TabAt w' g 96 (takeF F n kind m) ∧ Below B w w' := by
  have hgs := hT.lt
  obtain ⟨hc, hf⟩ := hT.cell hn hm
  have hn4 : (n : Int) < 4 := by omega
  have hm3 : (m : Int) < 3 := by omega
  have hT1 : TabAt (w.alloc (.cells #[.int .i64 n, .int .i64 kind, .int .i64 m] 49)) g 96 F := hT.on (by (repeat' (first | (with_reducible exact Below.refl _ _) | (with_reducible assumption) | (with_reducible refine Below.al ?_ _) | (with_reducible refine Below.drew ?_) | (with_reducible refine Below.drN ?_ _) | (with_reducible refine Below.via (by with_reducible assumption) ?_) | (with_reducible refine Below.setc ?_ ?_ _) | (with_reducible exact Nat.le_refl _) | (simp; done) | (simp; omega))))
  clear hT
  have HT := Lib.hid hT1; clear hT1
  have hB0 : Below B w (w.alloc (.cells #[.int .i64 n, .int .i64 kind, .int .i64 m] 49)) := by
    have : B ≤ w.heap.size := by omega
    exact (Below.refl _ _).alloc this _
  have HB := Lib.hid hB0; clear hB0
  rcases Bool.eq_false_or_eq_true (kind == 0 || kind == 1) with e1 | e1
  · have E1 := Lib.hid e1
    have hk1 : kind ≤ 1 := by simp at e1; omega
    clear e1
    go_enter Try.func52, Try.ntmps52
    go_wp2_with fail
    refine (impl_takes_held _ _ _ _).mono ?_
    rintro e w1 ⟨rfl, hb1⟩
    rw [E1.out]
    have hbx := HB.out.trans (hb1.mono (B' := B) (by simp; omega))
    have hT1 := HT.out.on hb1
    obtain ⟨hbc, hbf, hbz⟩ := bcell hb1
    have HT1 := Lib.hid hT1
    clear hT1 HT
    go_wp2_with fail
    go_region
    all_goals go_wp2
    all_goals go_end0
    all_goals
      exact ⟨⟨_, rfl⟩, (HT1.out.set_ hn hm (fun t x => by unfold takeF; rw [if_pos hk1])).drew, Below.drew (hbx.setCell (p := ⟨g, n * 3 + m, none⟩) hB _)⟩
  · have E1 := Lib.hid e1
    have hk1 : ¬ kind ≤ 1 := by simp at e1; omega
    clear e1
    cases e2 : (kind == 2)
    · have hs : takeF F n kind m = F := by
        have h2 : kind ≠ 2 := by simpa using e2
        funext t x
        unfold takeF
        rw [if_neg hk1, if_neg h2, ite_self]
      rw [hs]
      clear hs
      go_enter Try.func52, Try.ntmps52
      go_wp2_with fail
      refine (impl_takes_held _ _ _ _).mono ?_
      rintro e w1 ⟨rfl, hb1⟩
      rw [E1.out]
      have hbx := HB.out.trans (hb1.mono (B' := B) (by simp; omega))
      have hT1 := HT.out.on hb1
      obtain ⟨hbc, hbf, hbz⟩ := bcell hb1
      have HT1 := Lib.hid hT1
      clear hT1 HT
      go_wp2
      go_end0
      exact ⟨⟨_, rfl⟩, HT1.out, hbx⟩
    · have h2 : kind = 2 := by simpa using e2
      subst h2
      clear e2
      go_enter Try.func52, Try.ntmps52
      go_wp2_with fail
      refine (impl_takes_held _ _ _ _).mono ?_
      rintro e w1 ⟨rfl, hb1⟩
      rw [show ((2 : Int) == 0 || (2 : Int) == 1) = false by decide]
      have hbx := HB.out.trans (hb1.mono (B' := B) (by simp; omega))
      have hT1 := HT.out.on hb1
      obtain ⟨hbc, hbf, hbz⟩ := bcell hb1
      have HT1 := Lib.hid hT1
      clear hT1 HT
      go_wp2_with fail
      go_region
      all_goals go_wp2
      all_goals go_end0
      all_goals
        exact ⟨⟨_, rfl⟩, (HT1.out.set_ hn hm (fun t x => by unfold takeF; simp)).drew, Below.drew (hbx.setCell (p := ⟨g, n * 3 + m, none⟩) hB _)⟩
/-- Of a table that is being filled with -1: the cells of the rows before i, and of row i the first j. -/
def fillF (i j : Nat) : Int → Int → Int := fun t x => if t < i ∨ (t = i ∧ x < j) then -1 else 0
theorem TabAt.congr {w : World} {g : Nat} {E : TypeId} {F G : Int → Int → Int} (h : TabAt w g E F) (e : ∀ t x : Int, 0 ≤ t → t < 4 → 0 ≤ x → x < 3 → F t x = G t x) : TabAt w g E G := by
  unfold TabAt at h ⊢
  rw [h, e 0 0 (by omega) (by omega) (by omega) (by omega), e 0 1 (by omega) (by omega) (by omega) (by omega), e 0 2 (by omega) (by omega) (by omega) (by omega),
    e 1 0 (by omega) (by omega) (by omega) (by omega), e 1 1 (by omega) (by omega) (by omega) (by omega), e 1 2 (by omega) (by omega) (by omega) (by omega),
    e 2 0 (by omega) (by omega) (by omega) (by omega), e 2 1 (by omega) (by omega) (by omega) (by omega), e 2 2 (by omega) (by omega) (by omega) (by omega),
    e 3 0 (by omega) (by omega) (by omega) (by omega), e 3 1 (by omega) (by omega) (by omega) (by omega), e 3 2 (by omega) (by omega) (by omega) (by omega)]
theorem fill_step (i j : Nat) (t x : Int) : fillF i (j + 1) t x = if t = i ∧ x = j then -1 else fillF i j t x := by
  unfold fillF
  by_cases h1 : t < i ∨ (t = i ∧ x < j)
  · rw [if_pos (by omega), if_pos h1]; split <;> rfl
  · by_cases h2 : t = i ∧ x = j
    · rw [if_pos (by omega), if_pos h2]
    · rw [if_neg (by omega), if_neg h2, if_neg h1]
set_option maxHeartbeats 1000000 in
theorem impl_tableOf_any (A : Option Addr) (c : Nat) (l : List O3) (w : World) (hv : l.all stepB = true) (hl : l.length ≤ 1048576) (hR : RdO w w.heap.size A l) :
    Calls Try.prog 51 #[.slice A l.length c] w fun e w' => (∃ g, e = .returned (.pointer (some ⟨g, 0, none⟩)) ∧ w.heap.size ≤ g ∧ TabAt w' g 96 (fun t x => heldTo l t x l.length)) ∧ Below w.heap.size w w' := by
  have HV := Lib.hid hv; clear hv
  go_enter Try.func51, Try.ntmps51
  go_wp2_with fail
  go_loopw [10] (fun i wr => ∃ k : Nat, k ≤ 4 ∧ i = .int .i64 k ∧ TabAt wr w.heap.size 96 (fillF k 0) ∧ Below w.heap.size w wr) (fun i _ => 4 - (intOf i).toNat)
  case atStart => exact ⟨0, by omega, rfl, by unfold TabAt; rw [heap_alloc_new]; rfl, by (repeat' (first | (with_reducible exact Below.refl _ _) | (with_reducible assumption) | (with_reducible refine Below.al ?_ _) | (with_reducible refine Below.drew ?_) | (with_reducible refine Below.drN ?_ _) | (with_reducible refine Below.via (by with_reducible assumption) ?_) | (with_reducible refine Below.setc ?_ ?_ _) | (with_reducible exact Nat.le_refl _) | (simp; done) | (simp; omega)))⟩
  case round =>
    obtain ⟨k, hk, rfl, hT, hbw⟩ := hrel
    have HT := Lib.hid hT; clear hT
    have HB := Lib.hid hbw; clear hbw
    by_cases hlt : k < 4
    · go_wp2_with fail
      go_loopw [13] (fun i wr => ∃ j : Nat, j ≤ 3 ∧ i = .int .i64 j ∧ TabAt wr w.heap.size 96 (fillF k j) ∧ Below w.heap.size w wr) (fun i _ => 3 - (intOf i).toNat)
      case atStart => exact ⟨0, by omega, rfl, HT.out, HB.out⟩
      case round =>
        obtain ⟨j, hj, rfl, hT, hbw⟩ := hrel
        have HU := Lib.hid hT
        have HC := Lib.hid hbw; clear hbw
        by_cases hjt : j < 3
        · obtain ⟨hc, hf⟩ := hT.cell hlt hjt
          have hz := hT.lt
          clear hT
          have hk4 : (k : Int) < 4 := by omega
          have hj3 : (j : Int) < 3 := by omega
          go_wp2
          exact ⟨⟨j + 1, by omega, by go_num, HU.out.set_ hlt hjt (fill_step k j), by have hbw := HC.out; (repeat' (first | (with_reducible exact Below.refl _ _) | (with_reducible assumption) | (with_reducible refine Below.al ?_ _) | (with_reducible refine Below.drew ?_) | (with_reducible refine Below.drN ?_ _) | (with_reducible refine Below.via (by with_reducible assumption) ?_) | (with_reducible refine Below.setc ?_ ?_ _) | (with_reducible exact Nat.le_refl _) | (simp; done) | (simp; omega)))⟩, by simp [intOf]; omega⟩
        · have hj' : j = 3 := by omega
          subst hj'
          clear hT
          go_wp2
          refine ⟨⟨k + 1, by omega, by go_num, HU.out.congr (fun t x h1 h2 h3 h4 => ?_), HC.out⟩, by simp [intOf]; omega⟩
          unfold fillF
          by_cases h5 : t < k ∨ t = k
          · rw [if_pos (by omega), if_pos (by omega)]
          · rw [if_neg (by omega), if_neg (by omega)]
    · have HK4 := Lib.hid (show k = 4 by omega)
      go_wp2_with fail
      (try (rename ¬ (k : Int) < 4 => hq; clear hq))
      (try (rename 4 ≤ (k : Int) => hq; clear hq))
      have hT0 : TabAt wr w.heap.size 96 (fun t x => heldTo l t x 0) := HT.out.congr (fun t x h1 h2 h3 h4 => by have := HK4.out; unfold fillF heldTo; rw [if_pos (by omega)])
      go_loopw [26] (fun i wr => ∃ k : Nat, k ≤ l.length ∧ i = .int .i64 k ∧ TabAt wr w.heap.size 96 (fun t x => heldTo l t x k) ∧ Below w.heap.size w wr) (fun i _ => l.length - (intOf i).toNat)
      case atStart => exact ⟨0, Nat.zero_le _, rfl, hT0, HB.out⟩
      case round =>
        clear hT0 hlt hk HT HB
        obtain ⟨k, hk, rfl, hT, hbw⟩ := hrel
        have HU := Lib.hid hT
        have hz := hT.lt
        clear hT
        have HC := Lib.hid hbw; clear hbw
        by_cases hlt : k < l.length
        · obtain ⟨b, off, rfl, hb, h0, h1, h2⟩ := (hR.on HC.out).at_ hlt
          obtain ⟨⟨t0, t3⟩, ⟨k0, k3⟩, ⟨x0, x3⟩⟩ := steps_at HV.out hlt
          have HTk := Lib.hid (held_take hlt)
          obtain ⟨n, hn⟩ : ∃ n : Nat, l[k].tx = n := ⟨l[k].tx.toNat, by omega⟩
          obtain ⟨m, hm⟩ : ∃ m : Nat, l[k].item = m := ⟨l[k].item.toNat, by omega⟩
          have HN := Lib.hid hn
          have HM := Lib.hid hm
          rw [hn] at h0 t3
          rw [hm] at h2 x3
          clear t0 x0 hn hm k3
          go_wp2_with fail
          refine (impl_take_any w.heap.size n m l[k].kind _ _ w.heap.size (Nat.le_refl _) (by omega) (by omega) k0 (HU.out.on (by (repeat' (first | (with_reducible exact Below.refl _ _) | (with_reducible assumption) | (with_reducible refine Below.al ?_ _) | (with_reducible refine Below.drew ?_) | (with_reducible refine Below.drN ?_ _) | (with_reducible refine Below.via (by with_reducible assumption) ?_) | (with_reducible refine Below.setc ?_ ?_ _) | (with_reducible exact Nat.le_refl _) | (simp; done) | (simp; omega)))))).mono ?_
          rintro e w2 ⟨⟨v, rfl⟩, hT2, hb2⟩
          have hT3 : TabAt w2 w.heap.size 96 (fun t x => heldTo l t x (k + 1)) := by rw [HTk.out, HN.out, HM.out]; exact hT2
          clear hT2
          have HT3 := Lib.hid hT3; clear hT3
          have hbx : Below w.heap.size w w2 := by
            refine Below.trans ?_ hb2
            have hbw := HC.out
            (repeat' (first | (with_reducible exact Below.refl _ _) | (with_reducible assumption) | (with_reducible refine Below.al ?_ _) | (with_reducible refine Below.drew ?_) | (with_reducible refine Below.drN ?_ _) | (with_reducible refine Below.via (by with_reducible assumption) ?_) | (with_reducible refine Below.setc ?_ ?_ _) | (with_reducible exact Nat.le_refl _) | (simp; done) | (simp; omega)))
          have HX := Lib.hid hbx; clear hbx hb2
          go_wp2_with fail
          exact ⟨⟨k + 1, by omega, by go_num, HT3.out, HX.out⟩, by simp [intOf]; omega⟩
        · have hk' : k = l.length := by omega
          have HK := Lib.hid hk'; clear hk'
          go_wp2
          go_ret
          refine ⟨⟨w.heap.size, rfl, Nat.le_refl _, ?_⟩, HC.out⟩
          have h := HU.out
          rw [HK.out] at h
          exact h

/-! ### HeldAt -/
def hdV (l : List O3) (i t x : Int) : Int := if stepsB l = true then (if inR i 0 l.length = true then heldTo l t x i.toNat else -1) else -1
theorem held_cut {l : List O3} {i : Nat} (t x : Int) (hi : i ≤ l.length) : ∀ k, k ≤ i → heldTo (l.take i) t x k = heldTo l t x k := by
  intro k
  induction k with
  | zero => intro _; rfl
  | succ k ih =>
    intro hk
    have h1 : k < l.length := by omega
    have h2 : k < (l.take i).length := by rw [List.length_take]; omega
    have h3 : (l.take i)[k] = l[k] := List.getElem_take
    unfold heldTo
    rw [dif_pos h1, dif_pos h2, ih (by omega)]
    simp only [h3]
theorem steps_all {l : List O3} (h : stepsB l = true) : l.all stepB = true := by simp [stepsB] at h; simpa using h.1
theorem steps_len {l : List O3} (h : stepsB l = true) : l.length ≤ 40 := by simp [stepsB] at h; exact h.2
end Go.Proofs.Ytejipiadapggmaa
