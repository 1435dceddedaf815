/- The last writes: contracts of slices.Repeat at one number three times, and of FinalsOf, the reference's and the program's. -/
import Derived.Test.YtlcaadjlghbcpaaReads
import Derived.Laws.CopyOwn
namespace Go.Proofs.Ytlcaadjlghbcpaa
set_option linter.unusedSimpArgs false
set_option linter.unusedVariables false
open Go.RowKit

set_option maxHeartbeats 400000 in
theorem bits_Mul64_13 (w : World) : Calls Try.prog 109 #[.int .u64 1, .int .u64 3] w fun e w' => e = .returned (.tuple #[.int .u64 0, .int .u64 3]) ∧ w = w' := by
  go_enter Try.func109, Try.ntmps109
  go_wp2
  go_ret2
  exact ⟨rfl, rfl⟩
set_option maxHeartbeats 400000 in
theorem bits_Mul_13 (w : World) : Calls Try.prog 107 #[.int .u64 1, .int .u64 3] w fun e w' => e = .returned (.tuple #[.int .u64 0, .int .u64 3]) ∧ w = w' := by
  go_enter Try.func107, Try.ntmps107
  go_wp2_with (go_at_call 109; refine (bits_Mul64_13 _).mono ?_; rintro e w1 ⟨rfl, rfl⟩)
  go_ret2
  exact ⟨rfl, rfl⟩
/-- A row of three numbers at a block. -/
def Row3 (w : World) (g : Nat) (E : TypeId) (a b c : Int) : Prop := w.heap[g]? = some (.cells [Value.int .i64 a, .int .i64 b, .int .i64 c].toArray E (0, 0))
theorem Row3.own {w : World} {base g : Nat} {E : TypeId} {a b c : Int} (h : Row3 w g E a b c) (hb : base ≤ g) : OwnI w base E (.slice (some ⟨g, 0, none⟩) 3 3) [a, b, c] :=
  .inr ⟨g, 3, _, rfl, hb, h, Nat.le_refl _, by simp [maxLen], by simp [cellsI]⟩
theorem Row3.cell {w : World} {g : Nat} {E : TypeId} {a b c : Int} (h : Row3 w g E a b c) : w.cell? ⟨g, 0, none⟩ = some (.int .i64 a) ∧ w.cell? ⟨g, 1, none⟩ = some (.int .i64 b) ∧ w.cell? ⟨g, 2, none⟩ = some (.int .i64 c) := by
  refine ⟨?_, ?_, ?_⟩ <;> rw [cell_of_row w g _ _ E (0, 0) h] <;> simp
theorem one_at {w : World} {a : Addr} {x : Int} (h : w.cell? a = some (.int .i64 x)) : ∀ j v, [Value.int .i64 x][j]? = some v → w.cell? (a.add j) = some v := by
  intro j v hj
  match j with
  | 0 =>
    simp at hj
    subst hj
    have e : a.add 0 = a := by
      unfold Addr.add
      split <;> simp_all
    rw [e]
    exact h
  | j + 1 => simp at hj
theorem one_cell (x : Int) : ∀ v ∈ [Value.int .i64 x], v.oneCell' = true := by
  intro v hv
  simp at hv
  subst hv
  rfl
set_option maxRecDepth 4000 in
set_option maxHeartbeats 1000000 in
theorem Repeat_int_any (g0 : Nat) (x : Int) (w : World) (hg0 : g0 < w.heap.size) (hc : w.cell? ⟨g0, 0, none⟩ = some (.int .i64 x)) :
    Calls Try.prog 104 #[.slice (some ⟨g0, 0, none⟩) 1 1, .int .i64 3] w fun e w' => (∃ v, e = .returned v ∧ OwnI w' w.heap.size 3 v [x, x, x]) ∧ Below w.heap.size w w' := by
  obtain ⟨i0, hi0, hz0, hz1, hz2⟩ := info_parts info_I
  have hsz : (Try.prog.info? 3).map (·.size) = some 1 := by rw [hi0]; simp [hz1]
  have hmk : (Instr.makeSlice 38 (.int .i64 3) (.int .i64 3)).run Try.prog w = .ok (.slice (some ⟨w.heap.size, 0, none⟩) 3 3) (w.alloc (.cells [Value.int .i64 0, .int .i64 0, .int .i64 0].toArray 3)) := by
    rw [run_make w 38 3 i0 _ Try.underlying38 hi0 hz0 .i64 .i64 3 3 (by omega) (by omega) (by rw [hz2]; omega) (by omega), hz1]
    congr 3
    apply Array.toList_inj.1
    simp [madeCells, Value.cells, List.range_succ]
  have hX := Lib.hid (show (w.alloc (.cells [Value.int .i64 0, .int .i64 0, .int .i64 0].toArray 3)).cell? ⟨g0, 0, none⟩ = some (.int .i64 x) from (World.cell?_alloc_lt w _ _ hg0).trans hc)
  have hRow := Lib.hid (show Row3 (w.alloc (.cells [Value.int .i64 0, .int .i64 0, .int .i64 0].toArray 3)) w.heap.size 3 0 0 0 from heap_alloc_new _ _)
  have hB0 := Lib.hid (show Below w.heap.size w (w.alloc (.cells [Value.int .i64 0, .int .i64 0, .int .i64 0].toArray 3)) by (repeat' (first | (with_reducible exact Below.refl _ _) | (with_reducible assumption) | (with_reducible refine Below.al ?_ _) | (with_reducible refine Below.drew ?_) | (with_reducible refine Below.drN ?_ _) | (with_reducible refine Below.via (by with_reducible assumption) ?_) | (with_reducible refine Below.setc ?_ ?_ _) | (with_reducible exact Nat.le_refl _) | (simp; done) | (simp; omega))))
  obtain ⟨W, hW⟩ : ∃ W, W = w.alloc (.cells [Value.int .i64 0, .int .i64 0, .int .i64 0].toArray 3) := ⟨_, rfl⟩
  rw [← hW] at hmk hX hRow hB0
  clear hW
  go_enter Try.func104, Try.ntmps104
  go_wp2_with (first
    | (go_at_call 107; refine (bits_Mul_13 _).mono ?_; rintro e w1 ⟨rfl, rfl⟩)
    | ((with_reducible show wpList _ _ _ _ _ _); refine wpList_copy_splice (o := ⟨some 33, _, _, _, _, _⟩) rfl (.tmp 31) (.tmp 32) 38 38 rfl 3 Try.underlying38 hsz _ _ 3 3 1 1 rfl rfl w.heap.size 0 [Value.int .i64 0, .int .i64 0, .int .i64 0] 3 hRow.out [Value.int .i64 x] rfl (fun _ => ⟨rfl, _, rfl, fun j u hj => by
        match j with
        | 0 => simp at hj; subst hj; rw [addr_add]; exact hX.out
        | j + 1 => simp at hj⟩) (by simp) (by intro v hv; simp at hv; subst hv; rfl) w.heap.size w hB0.out (Nat.le_refl _) ?_; intro w2 hg2 hb2))
  have hr2 : Row3 w2 w.heap.size 3 x 0 0 := by have h := hg2.out; unfold Row3; simpa [splice] using h
  clear hg2
  go_loopw [8] (fun i wr => ∃ n : Nat, i = .int .i64 n ∧ ((n = 1 ∧ Row3 wr w.heap.size 3 x 0 0) ∨ (n = 2 ∧ Row3 wr w.heap.size 3 x x 0) ∨ (n = 3 ∧ Row3 wr w.heap.size 3 x x x)) ∧ Below w.heap.size w wr) (fun i _ => 3 - (intOf i).toNat)
  case atStart => exact ⟨1, rfl, .inl ⟨rfl, hr2⟩, hb2⟩
  case round =>
    obtain ⟨n, rfl, hn, hbw⟩ := hrel
    have HB := Lib.hid hbw; clear hbw hb2 hr2
    rcases hn with ⟨rfl, hr⟩ | ⟨rfl, hr⟩ | ⟨rfl, hr⟩
    all_goals have HR := Lib.hid hr; clear hr
    all_goals
      have HC := Lib.hid (one_at (a := ⟨w.heap.size, 0, none⟩) HR.out.cell.1)
      have HO := Lib.hid (one_cell x)
    · skip
      go_wp2_with fail
      go_region_law (refine step_copy_splice rfl (.tmp 41) (.tmp 44) 38 38 rfl 3 Try.underlying38 hsz (some ⟨w.heap.size, 1, none⟩) (some ⟨w.heap.size, 0, none⟩) 2 2 1 3 (by simp [go_sem]) (by simp [go_sem]) w.heap.size 1 [Value.int .i64 x, .int .i64 0, .int .i64 0] 3 HR.out [Value.int .i64 x] rfl (fun _ => ⟨rfl, _, rfl, HC.out⟩) (by simp) HO.out w.heap.size w (Below.drew HB.out) (Nat.le_refl _) ?_; intro w4 hg4 hb4)
      simp [Act.put]
      go_wp2
      exact ⟨⟨2, by go_num, .inr (.inl ⟨rfl, by have h := hg4.out; unfold Row3; simpa [splice] using h⟩), hb4⟩, by simp [intOf]; decide⟩
    · skip
      go_wp2_with fail
      go_region_law (refine step_copy_splice rfl (.tmp 41) (.tmp 44) 38 38 rfl 3 Try.underlying38 hsz (some ⟨w.heap.size, 2, none⟩) (some ⟨w.heap.size, 0, none⟩) 1 1 2 3 (by simp [go_sem]) (by simp [go_sem]) w.heap.size 2 [Value.int .i64 x, .int .i64 x, .int .i64 0] 3 HR.out [Value.int .i64 x] rfl (fun _ => ⟨rfl, _, rfl, HC.out⟩) (by simp) HO.out w.heap.size w (Below.drew HB.out) (Nat.le_refl _) ?_; intro w4 hg4 hb4)
      simp [Act.put]
      go_wp2
      exact ⟨⟨3, by go_num, .inr (.inr ⟨rfl, by have h := hg4.out; unfold Row3; simpa [splice] using h⟩), hb4⟩, by simp [intOf]; decide⟩
    · go_wp2
      go_ret
      exact ⟨⟨_, rfl, HR.out.own (Nat.le_refl _)⟩, HB.out⟩

/-! ### The plain side -/
/-- The transaction of the last write of an item in the first k operations, of those that do not abort in the schedule. -/
def finAt (l : List O3) (x : Int) (k : Nat) : Int := srcAt (fun o => o.kind == 1 && (o.item == x && !(endL l o.tx == 3))) l k
theorem finAt_yes {l : List O3} {x : Int} {k : Nat} (hk : k < l.length) (h1 : (l[k].kind == 1) = true) (h2 : (l[k].item == x) = true) (h3 : (endL l l[k].tx == 3) = false) : finAt l x (k + 1) = l[k].tx := srcAt_yes hk (by simp [h1, h2, h3])
theorem finAt_no1 {l : List O3} {x : Int} {k : Nat} (hk : k < l.length) (h1 : (l[k].kind == 1) = false) : finAt l x (k + 1) = finAt l x k := srcAt_no hk (by simp [h1])
theorem finAt_no2 {l : List O3} {x : Int} {k : Nat} (hk : k < l.length) (h2 : (l[k].item == x) = false) : finAt l x (k + 1) = finAt l x k := srcAt_no hk (by simp [h2])
theorem finAt_no3 {l : List O3} {x : Int} {k : Nat} (hk : k < l.length) (h3 : (endL l l[k].tx == 3) = true) : finAt l x (k + 1) = finAt l x k := srcAt_no hk (by simp [h3])
/-- FinalsOf's list, after the first k operations. -/
def fins (l : List O3) (k : Nat) : List Int := [finAt l 0 k, finAt l 1 k, finAt l 2 k]
def finsTo (l : List O3) (n : Nat) : List Int := (List.range n).map fun x : Nat => finAt l x l.length
theorem finsTo_succ (l : List O3) (n : Nat) : finsTo l (n + 1) = finsTo l n ++ [finAt l n l.length] := by simp [finsTo, List.range_succ]
theorem finsTo_len (l : List O3) (n : Nat) : (finsTo l n).length = n := by simp [finsTo]
theorem finsTo_3 (l : List O3) : finsTo l 3 = fins l l.length := by simp [finsTo, fins, List.range_succ]
noncomputable def finsV (l : List O3) : List Int := if tt (ValidP l) = true then fins l l.length else []
theorem finsV_len (l : List O3) (hl : l.length ≤ 1048576) : (finsV l).length ≤ 1048576 := by
  unfold finsV; split <;> simp [fins]
theorem valid_item {l : List O3} (hv : ValidP l) {k : Nat} (hk : k < l.length) : l[k].item = 0 ∨ l[k].item = 1 ∨ l[k].item = 2 := by
  have h := (hv.2 k hk).2.1
  simp [validB, inR] at h
  omega

set_option maxHeartbeats 1000000 in
theorem spec_finals_any (A : Option Addr) (c : Nat) (l : List O3) (w : World) (hl : l.length ≤ 1048576) (hR : RdO w w.heap.size A l) :
    Calls Try.prog 82 #[.slice A l.length c] w fun e w' => (∃ v, e = .returned v ∧ OwnI w' w.heap.size 3 v (fins l l.length)) ∧ Below w.heap.size w w' := by
  obtain ⟨i0, hi0, hz0, hz1, hz2⟩ := info_parts info_I
  have HM := Lib.hid (show l.length ≤ maxLen by unfold maxLen; omega)
  go_enter Try.func82, Try.ntmps82
  go_wp2_with fail
  have hB0 : Below w.heap.size w (w.alloc (Obj.cells #[] 3)) := by (repeat' (first | (with_reducible exact Below.refl _ _) | (with_reducible assumption) | (with_reducible refine Below.al ?_ _) | (with_reducible refine Below.drew ?_) | (with_reducible refine Below.drN ?_ _) | (with_reducible refine Below.via (by with_reducible assumption) ?_) | (with_reducible refine Below.setc ?_ ?_ _) | (with_reducible exact Nat.le_refl _) | (simp; done) | (simp; omega)))
  have hO0 : AppI (w.alloc (Obj.cells #[] 3)) w.heap.size 3 (.slice (some ⟨w.heap.size, 0, none⟩) 0 0) [] := AppI.made (Nat.le_refl _) _ _ (by simp [maxLen]) rfl
  go_loopw [3, 4, 5, 6] (fun v i _ _ wr => ∃ (k : Nat) (A' : Option Addr) (c' : Nat), k ≤ 3 ∧ i = .int .i64 k ∧ v = .slice A' (finsTo l k).length c' ∧ AppI wr w.heap.size 3 (.slice A' (finsTo l k).length c') (finsTo l k) ∧ Below w.heap.size w wr) (fun _ i _ _ _ => 3 - (intOf i).toNat)
  case atStart => exact ⟨0, _, _, Nat.zero_le _, rfl, rfl, hO0, hB0⟩
  case round =>
    obtain ⟨k, A', c', hk, rfl, rfl, hown, hbw⟩ := hrel
    have HO := Lib.hid hown; clear hown hO0
    have HB := Lib.hid hbw; clear hbw hB0
    have HL := Lib.hid (show (finsTo l k).length ≤ 4194304 by rw [finsTo_len]; omega)
    by_cases hlt : k < 3
    · go_wp2_with fail
      rename (k : Int) < 3 => hq
      clear hq
      obtain ⟨wo, hwo⟩ : ∃ wo : World, wo = wr := ⟨_, rfl⟩
      subst hwo
      go_loopw [5, 6] (fun v i wr => ∃ j : Nat, j ≤ l.length ∧ i = .int .i64 j ∧ v = .int .i64 (finAt l k j) ∧ Below wo.heap.size wo wr) (fun _ i _ => l.length - (intOf i).toNat)
      case atStart => exact ⟨0, Nat.zero_le _, rfl, rfl, Below.refl _ _⟩
      case round =>
        obtain ⟨j, hj, rfl, rfl, hbw⟩ := hrel
        have HW := Lib.hid hbw; clear hbw
        by_cases hjt : j < l.length
        · have hRr := (hR.on HB.out).on HW.out
          obtain ⟨b, off, rfl, hb, h0, h1, h2⟩ := hRr.at_ hjt
          have HR := Lib.hid hRr; clear hRr
          rcases and3 (l[j].kind == 1) (l[j].item == (k : Int)) (endL l l[j].tx == 3) with e1 | ⟨e1, e2⟩ | ⟨e1, e2, e3⟩ | ⟨e1, e2, e3⟩
          · have HS := Lib.hid (finAt_no1 (x := k) hjt e1)
            go_wp2_with fail
            exact ⟨⟨j + 1, by omega, by go_num, by rw [HS.out], HW.out⟩, by simp [intOf]; omega⟩
          · have HS := Lib.hid (finAt_no2 hjt e2)
            go_wp2_with fail
            exact ⟨⟨j + 1, by omega, by go_num, by rw [HS.out], HW.out⟩, by simp [intOf]; omega⟩
          · have HS := Lib.hid (finAt_yes hjt e1 e2 e3)
            have e4 : (endL l l[j].tx != 3) = true := by rw [bne, e3]; rfl
            clear e3
            go_wp2_with (go_at_call 70; refine (spec_endOf_any _ _ _ _ _ HM.out HR.out).mono ?_; rintro e w1 ⟨rfl, hb1⟩; obtain ⟨hbc, hbf, hbz⟩ := bcell hb1)
            exact ⟨⟨j + 1, by omega, by go_num, by rw [HS.out], by have hbw := HW.out; (repeat' (first | (with_reducible exact Below.refl _ _) | (with_reducible assumption) | (with_reducible refine Below.al ?_ _) | (with_reducible refine Below.drew ?_) | (with_reducible refine Below.drN ?_ _) | (with_reducible refine Below.via (by with_reducible assumption) ?_) | (with_reducible refine Below.setc ?_ ?_ _) | (with_reducible exact Nat.le_refl _) | (simp; done) | (simp; omega)))⟩, by simp [intOf]; omega⟩
          · have HS := Lib.hid (finAt_no3 (x := k) hjt e3)
            have e4 : (endL l l[j].tx != 3) = false := by rw [bne, e3]; rfl
            clear e3
            go_wp2_with (go_at_call 70; refine (spec_endOf_any _ _ _ _ _ HM.out HR.out).mono ?_; rintro e w1 ⟨rfl, hb1⟩; obtain ⟨hbc, hbf, hbz⟩ := bcell hb1)
            exact ⟨⟨j + 1, by omega, by go_num, by rw [HS.out], by have hbw := HW.out; (repeat' (first | (with_reducible exact Below.refl _ _) | (with_reducible assumption) | (with_reducible refine Below.al ?_ _) | (with_reducible refine Below.drew ?_) | (with_reducible refine Below.drN ?_ _) | (with_reducible refine Below.via (by with_reducible assumption) ?_) | (with_reducible refine Below.setc ?_ ?_ _) | (with_reducible exact Nat.le_refl _) | (simp; done) | (simp; omega)))⟩, by simp [intOf]; omega⟩
        · have hj' : j = l.length := by omega
          subst hj'
          have HO1 := Lib.hid (HO.out.on HW.out)
          have hbs : w.heap.size ≤ wr.heap.size := by have h1 := HB.out.size; have h2 := HW.out.size; omega
          have HS := Lib.hid (finsTo_succ l k)
          go_wp2_with (at_builtin; refine wpList_app_i _ 38 3 i0 rfl _ _ rfl Try.underlying38 hi0 hz0 hz1 hz2 w.heap.size _ _ rfl HO1.out (finAt l k l.length) _ rfl (by first | rfl | simp) HL.out hbs ?_; intro A2 c2 w2 hO2 hg2 hb2)
          refine ⟨⟨k + 1, A2, c2, by omega, by go_num, ?_, ?_, ?_⟩, by simp [intOf]; omega⟩
          · rw [HS.out]; simp
          · rw [HS.out, List.length_append]; exact hO2
          · exact (Below.via HW.out HB.out).trans hb2
    · have hk' : k = 3 := by omega
      have HK := Lib.hid hk'; clear hk'
      go_wp2
      go_ret
      refine ⟨⟨_, rfl, ?_⟩, HB.out⟩
      have h := HO.out.own
      rw [HK.out, finsTo_3] at h
      rw [HK.out, finsTo_3]
      exact h
theorem spec_finals_v (A : Option Addr) (c : Nat) (l : List O3) (w : World) (hv : ValidP l) (hl : l.length ≤ 1048576) (hR : RdO w w.heap.size A l) :
    Calls Try.prog 82 #[.slice A l.length c] w fun e w' => (∃ v, e = .returned v ∧ OwnI w' w.heap.size 3 v (fins l l.length)) ∧ Below w.heap.size w w' := spec_finals_any A c l w hl hR
set_option maxHeartbeats 1000000 in
theorem impl_finalsOf_any (A : Option Addr) (c : Nat) (l : List O3) (w : World) (hv : ValidP l) (hl : l.length ≤ 1048576) (hR : RdO w w.heap.size A l) :
    Calls Try.prog 81 #[.slice A l.length c] w fun e w' => (∃ v, e = .returned v ∧ OwnI w' w.heap.size 3 v (fins l l.length)) ∧ Below w.heap.size w w' := by
  have HM := Lib.hid (show l.length ≤ maxLen by unfold maxLen; omega)
  have HV := Lib.hid hv; clear hv
  go_enter Try.func81, Try.ntmps81
  go_wp2_with fail
  refine (Repeat_int_any _ (-1) _ (by simp) (by simp)).mono ?_
  rintro e w1 ⟨⟨v, rfl, hO⟩, hb1⟩
  have hO' : OwnI w1 w.heap.size 3 v (fins l 0) := OwnI.low hO (by simp)
  clear hO
  have hb0 : Below w.heap.size w w1 := by (repeat' (first | (with_reducible exact Below.refl _ _) | (with_reducible assumption) | (with_reducible refine Below.al ?_ _) | (with_reducible refine Below.drew ?_) | (with_reducible refine Below.drN ?_ _) | (with_reducible refine Below.via (by with_reducible assumption) ?_) | (with_reducible refine Below.setc ?_ ?_ _) | (with_reducible exact Nat.le_refl _) | (simp; done) | (simp; omega)))
  clear hb1
  obtain ⟨g, cap, rfl, hgb, -⟩ := hO'.at_ (k := 0) (by simp [fins])
  rw [show (fins l 0).length = 3 from rfl] at hO' ⊢
  go_wp2_with fail
  go_loopw [5, 10] (fun _ i wr => ∃ k : Nat, k ≤ l.length ∧ i = .int .i64 k ∧ OwnI wr w.heap.size 3 (.slice (some ⟨g, 0, none⟩) 3 cap) (fins l k) ∧ Below w.heap.size w wr) (fun _ i _ => l.length - (intOf i).toNat)
  case atStart => exact ⟨0, Nat.zero_le _, rfl, hO', hb0⟩
  case round =>
    obtain ⟨k, hk, rfl, hown, hbw⟩ := hrel
    have HO := Lib.hid hown; clear hown hO'
    have HB := Lib.hid hbw; clear hbw hb0
    by_cases hlt : k < l.length
    · have hRr := hR.on HB.out
      obtain ⟨b, off, rfl, hb, h0, h1, h2⟩ := hRr.at_ hlt
      have HR := Lib.hid hRr; clear hRr
      have stay : ((l[k].kind == 1) = false ∨ (endL l l[k].tx == 3) = true) → fins l (k + 1) = fins l k := by
        rintro (e | e)
        · simp only [fins, finAt_no1 hlt e]
        · simp only [fins, finAt_no3 hlt e]
      rcases and2 (l[k].kind == 1) (!(endL l l[k].tx == 3)) with e1 | ⟨e1, e2⟩ | ⟨e1, e2⟩
      · have HS := Lib.hid (stay (.inl e1)); clear stay
        go_wp2_with fail
        exact ⟨⟨k + 1, by omega, by go_num, by rw [HS.out]; exact HO.out.on (by (repeat' (first | (with_reducible exact Below.refl _ _) | (with_reducible assumption) | (with_reducible refine Below.al ?_ _) | (with_reducible refine Below.drew ?_) | (with_reducible refine Below.drN ?_ _) | (with_reducible refine Below.via (by with_reducible assumption) ?_) | (with_reducible refine Below.setc ?_ ?_ _) | (with_reducible exact Nat.le_refl _) | (simp; done) | (simp; omega)))), by have hbw := HB.out; (repeat' (first | (with_reducible exact Below.refl _ _) | (with_reducible assumption) | (with_reducible refine Below.al ?_ _) | (with_reducible refine Below.drew ?_) | (with_reducible refine Below.drN ?_ _) | (with_reducible refine Below.via (by with_reducible assumption) ?_) | (with_reducible refine Below.setc ?_ ?_ _) | (with_reducible exact Nat.le_refl _) | (simp; done) | (simp; omega)))⟩, by simp [intOf]; omega⟩
      · simp only [Bool.not_eq_false'] at e2
        have HS := Lib.hid (stay (.inr e2)); clear stay
        have e4 : (endL l l[k].tx != 3) = false := by rw [bne, e2]; rfl
        clear e2
        go_wp2_with (go_at_call 66; refine (impl_endOf_any _ _ _ _ _ HM.out (HR.out.on (by (repeat' (first | (with_reducible exact Below.refl _ _) | (with_reducible assumption) | (with_reducible refine Below.al ?_ _) | (with_reducible refine Below.drew ?_) | (with_reducible refine Below.drN ?_ _) | (with_reducible refine Below.via (by with_reducible assumption) ?_) | (with_reducible refine Below.setc ?_ ?_ _) | (with_reducible exact Nat.le_refl _) | (simp; done) | (simp; omega)))))).mono ?_; rintro e w1 ⟨rfl, hb1⟩; obtain ⟨hbc, hbf, hbz⟩ := bcell hb1)
        exact ⟨⟨k + 1, by omega, by go_num, by rw [HS.out]; exact HO.out.on (by (repeat' (first | (with_reducible exact Below.refl _ _) | (with_reducible assumption) | (with_reducible refine Below.al ?_ _) | (with_reducible refine Below.drew ?_) | (with_reducible refine Below.drN ?_ _) | (with_reducible refine Below.via (by with_reducible assumption) ?_) | (with_reducible refine Below.setc ?_ ?_ _) | (with_reducible exact Nat.le_refl _) | (simp; done) | (simp; omega)))), by have hbw := HB.out; (repeat' (first | (with_reducible exact Below.refl _ _) | (with_reducible assumption) | (with_reducible refine Below.al ?_ _) | (with_reducible refine Below.drew ?_) | (with_reducible refine Below.drN ?_ _) | (with_reducible refine Below.via (by with_reducible assumption) ?_) | (with_reducible refine Below.setc ?_ ?_ _) | (with_reducible exact Nat.le_refl _) | (simp; done) | (simp; omega)))⟩, by simp [intOf]; omega⟩
      · simp only [Bool.not_eq_true'] at e2
        clear stay
        rcases valid_item HV.out hlt with hi | hi | hi
        all_goals
          have hfin : fins l (k + 1) = (fins l k).set (l[k].item).toNat l[k].tx := by
            rw [hi]
            simp only [fins]
            first
              | (rw [finAt_yes (x := 0) hlt e1 (by simp [hi]) e2, finAt_no2 (x := 1) hlt (by simp [hi]), finAt_no2 (x := 2) hlt (by simp [hi])]; rfl)
              | (rw [finAt_no2 (x := 0) hlt (by simp [hi]), finAt_yes (x := 1) hlt e1 (by simp [hi]) e2, finAt_no2 (x := 2) hlt (by simp [hi])]; rfl)
              | (rw [finAt_no2 (x := 0) hlt (by simp [hi]), finAt_no2 (x := 1) hlt (by simp [hi]), finAt_yes (x := 2) hlt e1 (by simp [hi]) e2]; rfl)
          rw [hi] at h2 hfin
          have HS := Lib.hid hfin; clear hfin
          have e4 : (endL l l[k].tx != 3) = true := by rw [bne, e2]; rfl
          clear hi e2
          go_wp2_with (go_at_call 66; refine (impl_endOf_any _ _ _ _ _ HM.out (HR.out.on (by (repeat' (first | (with_reducible exact Below.refl _ _) | (with_reducible assumption) | (with_reducible refine Below.al ?_ _) | (with_reducible refine Below.drew ?_) | (with_reducible refine Below.drN ?_ _) | (with_reducible refine Below.via (by with_reducible assumption) ?_) | (with_reducible refine Below.setc ?_ ?_ _) | (with_reducible exact Nat.le_refl _) | (simp; done) | (simp; omega)))))).mono ?_; rintro e w1 ⟨rfl, hb1⟩; obtain ⟨hbc, hbf, hbz⟩ := bcell hb1; have hO1 : OwnI w1 w.heap.size 3 (.slice (some ⟨g, 0, none⟩) 3 cap) (fins l k) := HO.out.on (show Below wr.heap.size wr w1 by (repeat' (first | (with_reducible exact Below.refl _ _) | (with_reducible assumption) | (with_reducible refine Below.al ?_ _) | (with_reducible refine Below.drew ?_) | (with_reducible refine Below.drN ?_ _) | (with_reducible refine Below.via (by with_reducible assumption) ?_) | (with_reducible refine Below.setc ?_ ?_ _) | (with_reducible exact Nat.le_refl _) | (simp; done) | (simp; omega)))); obtain ⟨hg1, hg2, hc0, hf0⟩ := OwnI.cells hO1 (k := 0) (by simp [fins]); obtain ⟨-, -, hc1, -⟩ := OwnI.cells hO1 (k := 1) (by simp [fins]); obtain ⟨-, -, hc2, -⟩ := OwnI.cells hO1 (k := 2) (by simp [fins]); have HO1 := Lib.hid hO1; clear hO1)
          exact ⟨⟨k + 1, by omega, by go_num, by rw [HS.out]; exact OwnI.set_ HO1.out rfl _ _, by have hbw := HB.out; (repeat' (first | (with_reducible exact Below.refl _ _) | (with_reducible assumption) | (with_reducible refine Below.al ?_ _) | (with_reducible refine Below.drew ?_) | (with_reducible refine Below.drN ?_ _) | (with_reducible refine Below.via (by with_reducible assumption) ?_) | (with_reducible refine Below.setc ?_ ?_ _) | (with_reducible exact Nat.le_refl _) | (simp; done) | (simp; omega)))⟩, by simp [intOf]; omega⟩
    · have hk' : k = l.length := by omega
      have HK := Lib.hid hk'; clear hk'
      go_wp2
      go_ret
      exact ⟨⟨_, rfl, by rw [← HK.out]; exact HO.out⟩, HB.out⟩
set_option maxHeartbeats 400000 in
theorem spec_FinalsOf_any (A : Option Addr) (c : Nat) (l : List O3) (w : World) (hl : l.length ≤ 1048576) (hc : l.length ≤ c) (hR : RdO w w.heap.size A l) :
    Calls Try.prog 43 #[.slice A l.length c] w fun e w' => (∃ v, e = .returned v ∧ OwnI w' w.heap.size 3 v (finsV l)) ∧ Below w.heap.size w w' := by
  have HM := Lib.hid (show l.length ≤ maxLen by unfold maxLen; omega)
  rcases Bool.eq_false_or_eq_true (tt (ValidP l)) with hv | hv
  all_goals have HV := Lib.hid hv; clear hv
  · go_enter Try.func43, Try.ntmps43
    go_wp2_with (first | (go_at_call 67; refine (spec_validSchedule_any _ _ _ _ HM.out hR).mono ?_; rintro e w1 ⟨rfl, hb1⟩; rw [HV.out]) | (go_at_call 82; refine (spec_finals_v _ _ _ _ (tt_eq.1 HV.out) hl (hR.on hb1)).mono ?_; rintro e w2 ⟨⟨v, rfl, hO⟩, hb2⟩))
    go_ret
    exact ⟨⟨v, rfl, by rw [finsV, HV.out]; exact OwnG.low hO hb1.size⟩, by (repeat' (first | (with_reducible exact Below.refl _ _) | (with_reducible assumption) | (with_reducible refine Below.al ?_ _) | (with_reducible refine Below.drew ?_) | (with_reducible refine Below.drN ?_ _) | (with_reducible refine Below.via (by with_reducible assumption) ?_) | (with_reducible refine Below.setc ?_ ?_ _) | (with_reducible exact Nat.le_refl _) | (simp; done) | (simp; omega)))⟩
  · go_enter Try.func43, Try.ntmps43
    go_wp2_with (go_at_call 67; refine (spec_validSchedule_any _ _ _ _ HM.out hR).mono ?_; rintro e w1 ⟨rfl, hb1⟩; rw [HV.out])
    go_ret
    exact ⟨⟨_, rfl, by rw [finsV, HV.out]; exact OwnI.nil_⟩, by (repeat' (first | (with_reducible exact Below.refl _ _) | (with_reducible assumption) | (with_reducible refine Below.al ?_ _) | (with_reducible refine Below.drew ?_) | (with_reducible refine Below.drN ?_ _) | (with_reducible refine Below.via (by with_reducible assumption) ?_) | (with_reducible refine Below.setc ?_ ?_ _) | (with_reducible exact Nat.le_refl _) | (simp; done) | (simp; omega)))⟩
set_option maxHeartbeats 400000 in
theorem impl_FinalsOf_any (A : Option Addr) (c : Nat) (l : List O3) (w : World) (hl : l.length ≤ 1048576) (hc : l.length ≤ c) (hR : RdO w w.heap.size A l) :
    Calls Try.prog 42 #[.slice A l.length c] w fun e w' => (∃ v, e = .returned v ∧ OwnI w' w.heap.size 3 v (finsV l)) ∧ Below w.heap.size w w' := by
  have HM := Lib.hid (show l.length ≤ maxLen by unfold maxLen; omega)
  rcases Bool.eq_false_or_eq_true (tt (ValidP l)) with hv | hv
  all_goals have HV := Lib.hid hv; clear hv
  · go_enter Try.func42, Try.ntmps42
    go_wp2_with (first | (go_at_call 19; refine (impl_ValidSchedule_any _ _ _ _ HM.out hc hR).mono ?_; rintro e w1 ⟨rfl, hb1⟩; rw [HV.out]) | (go_at_call 81; refine (impl_finalsOf_any _ _ _ _ (tt_eq.1 HV.out) hl (hR.on hb1)).mono ?_; rintro e w2 ⟨⟨v, rfl, hO⟩, hb2⟩))
    go_ret
    exact ⟨⟨v, rfl, by rw [finsV, HV.out]; exact OwnG.low hO hb1.size⟩, by (repeat' (first | (with_reducible exact Below.refl _ _) | (with_reducible assumption) | (with_reducible refine Below.al ?_ _) | (with_reducible refine Below.drew ?_) | (with_reducible refine Below.drN ?_ _) | (with_reducible refine Below.via (by with_reducible assumption) ?_) | (with_reducible refine Below.setc ?_ ?_ _) | (with_reducible exact Nat.le_refl _) | (simp; done) | (simp; omega)))⟩
  · go_enter Try.func42, Try.ntmps42
    go_wp2_with (go_at_call 19; refine (impl_ValidSchedule_any _ _ _ _ HM.out hc hR).mono ?_; rintro e w1 ⟨rfl, hb1⟩; rw [HV.out])
    go_ret
    exact ⟨⟨_, rfl, by rw [finsV, HV.out]; exact OwnI.nil_⟩, by (repeat' (first | (with_reducible exact Below.refl _ _) | (with_reducible assumption) | (with_reducible refine Below.al ?_ _) | (with_reducible refine Below.drew ?_) | (with_reducible refine Below.drN ?_ _) | (with_reducible refine Below.via (by with_reducible assumption) ?_) | (with_reducible refine Below.setc ?_ ?_ _) | (with_reducible exact Nat.le_refl _) | (simp; done) | (simp; omega)))⟩
end Go.Proofs.Ytlcaadjlghbcpaa
