/- Contracts of the functions that list transactions: TxsOf, StampsOf, the reference's and the program's. -/
import Derived.Test.YtaflkbemecjcpaaFilt
import Derived.Test.YtaflkbemecjcpaaFind
namespace Go.Proofs.Ytaflkbemecjcpaa
set_option linter.unusedSimpArgs false
set_option linter.unusedVariables false
open Go.RowKit

set_option maxHeartbeats 400000 in
theorem Index_int_any (A : Option Addr) (c : Nat) (l : List Int) (x : Int) (w : World) (hl : l.length ≤ maxLen) (hR : RdI w w.heap.size A l) :
    Calls Try.prog 101 #[.slice A l.length c, .int .i64 x] w fun e w' => e = .returned (.int .i64 (idxB (fun y => x == y) l)) ∧ w = w' := by
  unfold maxLen at hl
  go_enter Try.func101, Try.ntmps101
  go_wp2_with fail
  go_loop [8] (fun i => ∃ k : Nat, k ≤ l.length ∧ i = .int .i64 k ∧ (l.take k).findIdx? (fun y => x == y) = none) (fun i => l.length - (intOf i).toNat)
  case atStart => exact ⟨0, Nat.zero_le _, rfl, rfl⟩
  case round =>
    obtain ⟨k, hk, rfl, hall⟩ := hrel
    have HA := Lib.hid hall; clear hall
    by_cases hlt : k < l.length
    · obtain ⟨b, off, rfl, hb, h0⟩ := hR.at_ hlt
      cases e1 : (x == l[k])
      · go_wp2
        exact ⟨⟨k + 1, by omega, by go_num, idx_on hlt HA.out e1⟩, by simp [intOf]; omega⟩
      · go_wp2
        go_ret
        exact ⟨ret_int (idx_hit hlt HA.out e1), rfl⟩
    · have hk' : k = l.length := by omega
      have HK := Lib.hid hk'; clear hk'
      go_wp2
      go_ret
      exact ⟨ret_int (idx_none (by have h := HA.out; rwa [HK.out, List.take_length] at h)), rfl⟩
theorem any_eqs (x : Int) (l : List Int) : l.any (fun y => x == y) = l.contains x := by
  rw [List.contains_eq_any_beq]
set_option maxHeartbeats 400000 in
theorem Contains_int_any (A : Option Addr) (c : Nat) (l : List Int) (x : Int) (w : World) (hl : l.length ≤ maxLen) (hR : RdI w w.heap.size A l) :
    Calls Try.prog 89 #[.slice A l.length c, .int .i64 x] w fun e w' => e = .returned (.bool (l.contains x)) ∧ w = w' := by
  go_enter Try.func89, Try.ntmps89
  go_wp2_with (go_at_call 101; refine (Index_int_any _ _ _ _ _ hl hR).mono ?_; rintro e w1 ⟨rfl, rfl⟩)
  go_ret
  exact ⟨ret_bool ((idx_any _ _).trans (any_eqs x l)), rfl⟩

/-- The transactions of a schedule, ascending. -/
def hasTx (l : List O3) (t : Int) : Bool := l.any fun o => o.tx == t
def txsTo (l : List O3) (k : Nat) : List Int := ((List.range k).map fun i : Nat => (i : Int)).filter (hasTx l)
def txsL (l : List O3) : List Int := txsTo l 4
theorem txsTo_yes {l : List O3} {k : Nat} (h : hasTx l k = true) : txsTo l (k + 1) = txsTo l k ++ [(k : Int)] := by
  unfold txsTo
  rw [List.range_succ, List.map_append, List.filter_append]
  simp [h]
theorem txsTo_no {l : List O3} {k : Nat} (h : hasTx l k = false) : txsTo l (k + 1) = txsTo l k := by
  unfold txsTo
  rw [List.range_succ, List.map_append, List.filter_append]
  simp [h]
theorem txsTo_le (l : List O3) (k : Nat) : (txsTo l k).length ≤ k := by
  unfold txsTo
  exact Nat.le_trans (List.length_filter_le _ _) (by simp)

set_option maxHeartbeats 1000000 in
theorem spec_txs_any (A : Option Addr) (c : Nat) (l : List O3) (w : World) (hl : l.length ≤ 1048576) (hR : RdO w w.heap.size A l) :
    Calls Try.prog 83 #[.slice A l.length c] w fun e w' => (∃ v, e = .returned v ∧ OwnI w' w.heap.size 3 v (txsL l)) ∧ Below w.heap.size w w' := by
  obtain ⟨i0, hi0, hz0, hz1, hz2⟩ := info_parts info_I
  go_enter Try.func83, Try.ntmps83
  go_wp2_with fail
  have hB0 : Below w.heap.size w (w.alloc (Obj.cells #[] 3)) := by (repeat' (first | (with_reducible exact Below.refl _ _) | (with_reducible assumption) | (with_reducible refine Below.al ?_ _) | (with_reducible refine Below.drew ?_) | (with_reducible refine Below.drN ?_ _) | (with_reducible refine Below.via (by with_reducible assumption) ?_) | (with_reducible refine Below.setc ?_ ?_ _) | (with_reducible exact Nat.le_refl _) | (simp; done) | (simp; omega)))
  have hO0 : AppI (w.alloc (Obj.cells #[] 3)) w.heap.size 3 (.slice (some ⟨w.heap.size, 0, none⟩) 0 0) [] := AppI.made (Nat.le_refl _) _ _ (by simp [maxLen]) rfl
  go_loopw [3, 4] (fun v i wr => ∃ (k : Nat) (A' : Option Addr) (c' : Nat), k ≤ 4 ∧ i = .int .i64 k ∧ v = .slice A' (txsTo l k).length c' ∧ AppI wr w.heap.size 3 (.slice A' (txsTo l k).length c') (txsTo l k) ∧ Below w.heap.size w wr) (fun _ i _ => 4 - (intOf i).toNat)
  case atStart => exact ⟨0, _, _, Nat.zero_le _, rfl, rfl, hO0, hB0⟩
  case round =>
    obtain ⟨k, A', c', hk, rfl, rfl, hown, hbw⟩ := hrel
    have HO := Lib.hid hown; clear hown hO0
    have HB := Lib.hid hbw; clear hbw hB0
    by_cases hlt : k < 4
    · have hlt' : (k : Int) < 4 := by omega
      have hle := txsTo_le l k
      have HL := Lib.hid (show (txsTo l k).length ≤ 4194304 by omega)
      clear hle
      have hBs : w.heap.size ≤ wr.heap.size := HB.out.size
      go_wp2_with fail
      obtain ⟨wo, hwo⟩ : ∃ wo : World, wo = wr := ⟨_, rfl⟩
      subst hwo
      go_loopw [3, 5] (fun v i wr => ∃ j : Nat, j ≤ l.length ∧ i = .int .i64 j ∧ v = .slice A' (txsTo l k).length c' ∧ (∀ i (hi : i < l.length), i < j → (l[i].tx == (k : Int)) = false) ∧ wr = wo) (fun _ i _ => l.length - (intOf i).toNat)
      case atStart => exact ⟨0, Nat.zero_le _, rfl, rfl, fun i hi h => by omega, rfl⟩
      case round =>
        obtain ⟨j, hj, rfl, rfl, hin, rfl⟩ := hrel
        have HI := Lib.hid hin; clear hin
        by_cases hjt : j < l.length
        · obtain ⟨b, off, rfl, hb, h0, h1, h2⟩ := (hR.on HB.out).at_ hjt
          cases e1 : (l[j].tx == (k : Int))
          · go_wp2_with fail
            exact ⟨⟨j + 1, by omega, by go_num, rfl, fun i hi h3 => by
              by_cases e : i = j
              · subst e; exact e1
              · exact HI.out i hi (by omega), by trivial⟩, by simp [intOf]; omega⟩
          · have HE := Lib.hid e1
            go_wp2_with (at_builtin; refine wpList_app_i _ 24 3 i0 rfl _ _ rfl Try.underlying24 hi0 hz0 hz1 hz2 w.heap.size _ _ rfl HO.out k _ rfl (by first | rfl | simp) HL.out hBs ?_; intro A2 c2 w2 hO2 hg2 hb2)
            have hh : hasTx l k = true := List.any_eq_true.2 ⟨l[j], List.getElem_mem hjt, HE.out⟩
            refine ⟨⟨k + 1, A2, c2, by omega, by go_num, ?_, ?_, HB.out.trans hb2⟩, by simp [intOf]; omega⟩
            · rw [txsTo_yes hh]; simp
            · rw [txsTo_yes hh, List.length_append]; exact hO2
        · have hj' : j = l.length := by omega
          have HJ := Lib.hid hj'; clear hj'
          go_wp2
          have hh : hasTx l k = false := by
            unfold hasTx
            rw [List.any_eq_false]
            intro x hx
            obtain ⟨i, hi, rfl⟩ := List.getElem_of_mem hx
            simp [HI.out i hi (by rw [HJ.out]; exact hi)]
          exact ⟨⟨k + 1, A', c', by omega, by go_num, by rw [txsTo_no hh], by rw [txsTo_no hh]; exact HO.out, HB.out⟩, by simp [intOf]; omega⟩
    · have hk' : k = 4 := by omega
      subst hk'
      go_wp2
      go_ret
      exact ⟨⟨_, rfl, HO.out.own⟩, HB.out⟩
set_option maxHeartbeats 400000 in
theorem impl_txsOf1_any (a b c t : Int) (g : Nat) (w : World) (hg : g < w.heap.size) (hc : w.cell? ⟨g, 0, none⟩ = some (.int .i64 t)) :
    Calls Try.prog 106 #[.agg #[.int .i64 a, .int .i64 b, .int .i64 c], .pointer (some ⟨g, 0, none⟩)] w fun e w' => e = .returned (.bool (a == t)) ∧ Below w.heap.size w w' := by
  have hne : g ≠ w.heap.size := by omega
  have hc' := fun o => (World.cell?_alloc_old w o ⟨g, 0, none⟩ hne).trans hc
  go_enter Try.func106, Try.ntmps106
  go_wp2
  go_ret
  exact ⟨rfl, by (repeat' (first | (with_reducible exact Below.refl _ _) | (with_reducible assumption) | (with_reducible refine Below.al ?_ _) | (with_reducible refine Below.drew ?_) | (with_reducible refine Below.drN ?_ _) | (with_reducible refine Below.via (by with_reducible assumption) ?_) | (with_reducible refine Below.setc ?_ ?_ _) | (with_reducible exact Nat.le_refl _) | (simp; done) | (simp; omega)))⟩
theorem impl_txsOf1_test (t : Int) (g : Nat) (w : World) (l : List O3) (hg : g < w.heap.size) (hc : w.cell? ⟨g, 0, none⟩ = some (.int .i64 t)) : TestOn Try.prog 106 #[.pointer (some ⟨g, 0, none⟩)] w (fun o => o.tx == t) l :=
  ⟨Try.call106, fun o _ w1 hb => impl_txsOf1_any o.tx o.kind o.item t g w1 (by have := hb.size; omega) ((hb.cell (p := ⟨g, 0, none⟩) hg).trans hc)⟩
set_option maxHeartbeats 1000000 in
theorem impl_txsOf_any (A : Option Addr) (c : Nat) (l : List O3) (w : World) (hl : l.length ≤ 1048576) (hR : RdO w w.heap.size A l) :
    Calls Try.prog 100 #[.slice A l.length c] w fun e w' => (∃ v, e = .returned v ∧ OwnI w' w.heap.size 3 v (txsL l)) ∧ Below w.heap.size w w' := by
  obtain ⟨i0, hi0, hz0, hz1, hz2⟩ := info_parts info_I
  have HM := Lib.hid (show l.length ≤ maxLen by unfold maxLen; omega)
  have H1 := Lib.hid (show i0.bytes * 4 ≤ 281474976710656 by rw [hz2]; omega)
  have H2 := Lib.hid (show 4 ≤ maxLen by unfold maxLen; omega)
  go_enter Try.func100, Try.ntmps100
  go_wp2_with (at_make; refine wpList_make_own _ rfl _ _ 24 rfl w.heap.size 3 i0 _ 1 Try.underlying24 hi0 hz0 hz1 .i64 .i64 _ 4 rfl rfl rfl H1.out H2.out (Nat.le_refl _) ?_; intro W hO hg)
  have hB0 : Below w.heap.size w W := (Below.refl _ _).grown hg (Nat.le_refl _) (by simp)
  clear hg
  go_loopw [3, 6] (fun v i wr => ∃ (k : Nat) (A' : Option Addr) (c' : Nat), k ≤ 4 ∧ i = .int .i64 k ∧ v = .slice A' (txsTo l k).length c' ∧ AppI wr w.heap.size 3 (.slice A' (txsTo l k).length c') (txsTo l k) ∧ Below w.heap.size w wr) (fun _ i _ => 4 - (intOf i).toNat)
  case atStart => exact ⟨0, _, _, Nat.zero_le _, rfl, rfl, hO, hB0⟩
  case round =>
    obtain ⟨k, A', c', hk, rfl, rfl, hown, hbw⟩ := hrel
    have HO := Lib.hid hown; clear hown hO
    have HB := Lib.hid hbw; clear hbw hB0
    by_cases hlt : k < 4
    · have hlt' : (k : Int) < 4 := by omega
      have hle := txsTo_le l k
      have HL := Lib.hid (show (txsTo l k).length ≤ 4194304 by omega)
      clear hle
      have hR1 : RdO (wr.alloc (.cells #[.int .i64 k] 3)) (wr.alloc (.cells #[.int .i64 k] 3)).heap.size A l := hR.on (by have hbw := HB.out; (repeat' (first | (with_reducible exact Below.refl _ _) | (with_reducible assumption) | (with_reducible refine Below.al ?_ _) | (with_reducible refine Below.drew ?_) | (with_reducible refine Below.drN ?_ _) | (with_reducible refine Below.via (by with_reducible assumption) ?_) | (with_reducible refine Below.setc ?_ ?_ _) | (with_reducible exact Nat.le_refl _) | (simp; done) | (simp; omega))))
      have hcf := ContainsFunc_Op_any A c l 106 #[.pointer (some ⟨wr.heap.size, 0, none⟩)] (fun o => o.tx == (k : Int)) (wr.alloc (.cells #[.int .i64 k] 3)) HM.out hR1 (impl_txsOf1_test k wr.heap.size _ l (by simp) (by simp))
      have HC := Lib.hid hcf; clear hcf hR1
      cases e1 : hasTx l k
      all_goals have HE := Lib.hid (show (l.any fun o => o.tx == (k : Int)) = _ from e1); clear e1
      · go_wp2_with (go_at_call 105; refine (HC.out).mono ?_; rintro e w1 ⟨rfl, hb1⟩; rw [HE.out])
        have hh : hasTx l k = false := HE.out
        exact ⟨⟨k + 1, A', c', by omega, by go_num, by rw [txsTo_no hh], by rw [txsTo_no hh]; exact HO.out.on (by (repeat' (first | (with_reducible exact Below.refl _ _) | (with_reducible assumption) | (with_reducible refine Below.al ?_ _) | (with_reducible refine Below.drew ?_) | (with_reducible refine Below.drN ?_ _) | (with_reducible refine Below.via (by with_reducible assumption) ?_) | (with_reducible refine Below.setc ?_ ?_ _) | (with_reducible exact Nat.le_refl _) | (simp; done) | (simp; omega)))), by have hbw := HB.out; (repeat' (first | (with_reducible exact Below.refl _ _) | (with_reducible assumption) | (with_reducible refine Below.al ?_ _) | (with_reducible refine Below.drew ?_) | (with_reducible refine Below.drN ?_ _) | (with_reducible refine Below.via (by with_reducible assumption) ?_) | (with_reducible refine Below.setc ?_ ?_ _) | (with_reducible exact Nat.le_refl _) | (simp; done) | (simp; omega)))⟩, by simp [intOf]; omega⟩
      · go_wp2_with (first
          | (go_at_call 105; refine (HC.out).mono ?_; rintro e w1 ⟨rfl, hb1⟩; rw [HE.out]; obtain ⟨hbc, hbf, hbz⟩ := bcell hb1; have hb3 : w.heap.size ≤ w1.heap.size := (show Below w.heap.size w w1 by have hbw := HB.out; (repeat' (first | (with_reducible exact Below.refl _ _) | (with_reducible assumption) | (with_reducible refine Below.al ?_ _) | (with_reducible refine Below.drew ?_) | (with_reducible refine Below.drN ?_ _) | (with_reducible refine Below.via (by with_reducible assumption) ?_) | (with_reducible refine Below.setc ?_ ?_ _) | (with_reducible exact Nat.le_refl _) | (simp; done) | (simp; omega)))).size; have HO1 := Lib.hid (HO.out.on (show Below wr.heap.size wr w1 by (repeat' (first | (with_reducible exact Below.refl _ _) | (with_reducible assumption) | (with_reducible refine Below.al ?_ _) | (with_reducible refine Below.drew ?_) | (with_reducible refine Below.drN ?_ _) | (with_reducible refine Below.via (by with_reducible assumption) ?_) | (with_reducible refine Below.setc ?_ ?_ _) | (with_reducible exact Nat.le_refl _) | (simp; done) | (simp; omega))))))
          | (at_builtin; refine wpList_app_i _ 24 3 i0 rfl _ _ rfl Try.underlying24 hi0 hz0 hz1 hz2 w.heap.size _ _ rfl HO1.out k _ rfl (by first | rfl | simp) HL.out hb3 ?_; intro A2 c2 w2 hO2 hg2 hb2))
        have hh : hasTx l k = true := HE.out
        refine ⟨⟨k + 1, A2, c2, by omega, by go_num, ?_, ?_, ?_⟩, by simp [intOf]; omega⟩
        · rw [txsTo_yes hh]; simp
        · rw [txsTo_yes hh, List.length_append]; exact hO2
        · have hbw := HB.out
          have h4 : Below w.heap.size w w1 := by (repeat' (first | (with_reducible exact Below.refl _ _) | (with_reducible assumption) | (with_reducible refine Below.al ?_ _) | (with_reducible refine Below.drew ?_) | (with_reducible refine Below.drN ?_ _) | (with_reducible refine Below.via (by with_reducible assumption) ?_) | (with_reducible refine Below.setc ?_ ?_ _) | (with_reducible exact Nat.le_refl _) | (simp; done) | (simp; omega)))
          exact h4.trans hb2
    · have hk' : k = 4 := by omega
      subst hk'
      have hcap := HO.out.cap.1
      go_wp2
      go_ret
      exact ⟨⟨_, rfl, HO.out.own.cut rfl⟩, HB.out⟩
/-- TxsOf's value. -/
noncomputable def txsV (l : List O3) : List Int := if tt (ValidP l) = true then txsL l else []
theorem txsV_len (l : List O3) (hl : l.length ≤ 1048576) : (txsV l).length ≤ 1048576 := by
  unfold txsV; split
  · have := txsTo_le l 4; unfold txsL; omega
  · simp

/-! ### StampsOf -/
def stampsTo (l : List O3) (k : Nat) : List Int := (l.take k).foldl (fun acc o => if acc.contains o.tx then acc else acc ++ [o.tx]) []
def stampsL (l : List O3) : List Int := stampsTo l l.length
theorem stampsTo_succ {l : List O3} {k : Nat} (hk : k < l.length) : stampsTo l (k + 1) = if (stampsTo l k).contains l[k].tx then stampsTo l k else stampsTo l k ++ [l[k].tx] := by
  unfold stampsTo
  rw [List.take_succ_eq_append_getElem hk, List.foldl_append]
  rfl
theorem stampsTo_le (l : List O3) (k : Nat) (hk : k ≤ l.length) : (stampsTo l k).length ≤ k := by
  induction k with
  | zero => simp [stampsTo]
  | succ k ih =>
    rw [stampsTo_succ (by omega)]
    have := ih (by omega)
    split <;> simp <;> omega
theorem stampsTo_mem {l : List O3} {k : Nat} (hk : k ≤ l.length) (t : Int) : (stampsTo l k).contains t = true ↔ ∃ j, ∃ h : j < l.length, j < k ∧ l[j].tx = t := by
  induction k with
  | zero => simp [stampsTo]
  | succ k ih =>
    have ih' := ih (by omega)
    have hkl : k < l.length := by omega
    rw [stampsTo_succ hkl]
    have step : (∃ j, ∃ h : j < l.length, j < k + 1 ∧ l[j].tx = t) ↔ ((∃ j, ∃ h : j < l.length, j < k ∧ l[j].tx = t) ∨ l[k].tx = t) := by
      constructor
      · rintro ⟨j, h, hj, e⟩
        by_cases ej : j = k
        · subst ej; exact .inr e
        · exact .inl ⟨j, h, by omega, e⟩
      · rintro (⟨j, h, hj, e⟩ | e)
        · exact ⟨j, h, by omega, e⟩
        · exact ⟨k, hkl, by omega, e⟩
    rw [step, ← ih']
    split
    · rename_i hc
      constructor
      · exact .inl
      · rintro (h | h)
        · exact h
        · rw [← h]; exact hc
    · simp only [List.contains_eq_mem, List.mem_append, List.mem_singleton, decide_eq_true_eq]
      constructor
      · rintro (h | h)
        · exact .inl h
        · exact .inr h.symm
      · rintro (h | h)
        · exact .inl h
        · exact .inr h.symm
/-- The place of the first operation of a transaction. -/
def firstOf (l : List O3) (t : Int) : Nat := (l.findIdx? fun o => o.tx == t).getD l.length
theorem first_iff {l : List O3} {k : Nat} (hk : k < l.length) : (firstOf l l[k].tx = k) ↔ (stampsTo l k).contains l[k].tx = false := by
  rw [Bool.eq_false_iff, Ne, stampsTo_mem (by omega)]
  unfold firstOf
  have hex : ∃ i, l.findIdx? (fun o => o.tx == l[k].tx) = some i := by
    cases h : l.findIdx? (fun o => o.tx == l[k].tx) with
    | none =>
      have := List.findIdx?_eq_none_iff.1 h l[k] (List.getElem_mem hk)
      simp at this
    | some i => exact ⟨i, rfl⟩
  obtain ⟨i, hi⟩ := hex
  obtain ⟨h1, h2, h3⟩ := List.findIdx?_eq_some_iff_getElem.1 hi
  rw [hi, Option.getD_some]
  constructor
  · rintro rfl ⟨j, hj, hjk, e⟩
    have := h3 j hjk
    simp [e] at this
  · intro h
    rcases Nat.lt_trichotomy i k with h4 | h4 | h4
    · exact absurd ⟨i, h1, h4, by simpa using h2⟩ h
    · exact h4
    · have := h3 k h4
      simp at this
/-- StampsOf's value. -/
noncomputable def stampsV (l : List O3) : List Int := if tt (ValidP l) = true then stampsL l else []
theorem stampsV_len (l : List O3) (hl : l.length ≤ 1048576) : (stampsV l).length ≤ 1048576 := by
  unfold stampsV; split
  · have := stampsTo_le l l.length (Nat.le_refl _); unfold stampsL; omega
  · simp
end Go.Proofs.Ytaflkbemecjcpaa
