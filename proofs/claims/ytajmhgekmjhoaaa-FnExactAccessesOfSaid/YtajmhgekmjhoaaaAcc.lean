/- The schedule of accesses: contracts of AccessesOf, the reference's and the program's. -/
import Derived.Deep.AppendLies
import Derived.Deep.RegionLaw
import Derived.Test.YtajmhgekmjhoaaaHeld
import Derived.Test.YtajmhgekmjhoaaaCpl
namespace Go.Proofs.Ytajmhgekmjhoaaa
set_option linter.unusedSimpArgs false
set_option linter.unusedVariables false
open Go.RowKit

/-! ### The plain side -/
def toAcc (o : O3) : O3 := ⟨o.tx, o.kind - 3, o.item⟩
def accTo (l : List O3) (k : Nat) : List O3 := ((l.take k).filter fun o => decide (3 ≤ o.kind)).map toAcc
theorem accTo_yes {l : List O3} {k : Nat} (hk : k < l.length) (h : 3 ≤ l[k].kind) : accTo l (k + 1) = accTo l k ++ [⟨l[k].tx, l[k].kind - 3, l[k].item⟩] := by
  unfold accTo
  rw [filter_take_yes hk (by simpa using h), List.map_append]; rfl
theorem accTo_no {l : List O3} {k : Nat} (hk : k < l.length) (h : ¬ 3 ≤ l[k].kind) : accTo l (k + 1) = accTo l k := by
  unfold accTo
  rw [filter_take_no hk (by simpa using h)]
theorem accTo_le (l : List O3) (k : Nat) : (accTo l k).length ≤ l.length := by
  unfold accTo
  rw [List.length_map]
  exact filter_take_le _ l k
def accL (l : List O3) : List O3 := accTo l l.length
/-- with the ends of the first k transactions -/
def endTo (p : List O3) (k : Nat) : List O3 := p ++ ((txsL p).take k).map fun t => ⟨t, 2, 0⟩
theorem endTo_0 (p : List O3) : endTo p 0 = p := by simp [endTo]
theorem endTo_succ {p : List O3} {k : Nat} (hk : k < (txsL p).length) : endTo p (k + 1) = endTo p k ++ [⟨(txsL p)[k], 2, 0⟩] := by
  unfold endTo
  rw [List.take_succ_eq_append_getElem hk, List.map_append, List.append_assoc]; rfl
theorem endTo_le (p : List O3) (k : Nat) : (endTo p k).length ≤ p.length + 4 := by
  unfold endTo
  rw [List.length_append, List.length_map, List.length_take]
  have := txs_le4 p
  omega
def acL (l : List O3) : List O3 := endTo (accL l) (txsL (accL l)).length
def acOk (l : List O3) : Bool := stepsB l && decide ((acL l).length ≤ 16)
def acV (l : List O3) : List O3 := if acOk l = true then acL l else []
theorem acV_len (l : List O3) (hl : l.length ≤ 1048576) : (acV l).length ≤ 1048576 := by
  unfold acV
  split
  · rename_i h
    simp [acOk] at h
    omega
  · simp

/-! ### The walks -/
set_option maxHeartbeats 1000000 in
theorem spec_AccessesOf_any (A : Option Addr) (c : Nat) (l : List O3) (w : World) (hl : l.length ≤ 1048576) (hR : RdO w w.heap.size A l) :
    Calls Try.prog 22 #[.slice A l.length c] w fun e w' => (∃ v, e = .returned (.tuple #[v, .bool (acOk l)]) ∧ OwnO w' w.heap.size 69 v (acV l)) ∧ Below w.heap.size w w' := by
  have HM := Lib.hid (show l.length ≤ maxLen by unfold maxLen; omega); clear hl
  obtain ⟨i0, hi0, hz0, hz1, hz2⟩ := info_parts info_O
  cases hv : stepsB l
  · have hs : acOk l = false := by unfold acOk; rw [hv]; rfl
    have hs2 : acV l = [] := by unfold acV; rw [hs]; rfl
    rw [hs, hs2]
    have HV := Lib.hid hv; clear hv hs hs2
    go_enter Try.func22, Try.ntmps22
    go_wp2_with (go_at_call 35; refine (spec_validSteps_any _ _ _ _ HM.out hR).mono ?_; rintro e w1 ⟨rfl, rfl⟩; rw [HV.out])
    go_ret2
    exact ⟨⟨_, rfl, OwnO.nil_⟩, Below.refl _ _⟩
  · have hs : acOk l = decide ((acL l).length ≤ 16) := by unfold acOk; rw [hv]; rfl
    have hlen := steps_len hv
    have HA := Lib.hid (steps_all hv)
    have HV := Lib.hid hv; clear hv
    go_enter Try.func22, Try.ntmps22
    go_wp2_with (go_at_call 35; refine (spec_validSteps_any _ _ _ _ HM.out hR).mono ?_; rintro e w1 ⟨rfl, rfl⟩; rw [HV.out])
    have hB0 : Below w.heap.size w (w.alloc (Obj.cells #[] 69)) := by (repeat' (first | (with_reducible exact Below.refl _ _) | (with_reducible assumption) | (with_reducible refine Below.al ?_ _) | (with_reducible refine Below.drew ?_) | (with_reducible refine Below.drN ?_ _) | (with_reducible refine Below.via (by with_reducible assumption) ?_) | (with_reducible refine Below.setc ?_ ?_ _) | (with_reducible exact Nat.le_refl _) | (simp; done) | (simp; omega)))
    have hO0 : AppO (w.alloc (Obj.cells #[] 69)) w.heap.size 69 (.slice (some ⟨w.heap.size, 0, none⟩) 0 0) [] := AppO.made (Nat.le_refl _) _ _ (by simp [maxLen]) rfl
    go_loopw [4, 5] (fun v i wr => ∃ (k : Nat) (A' : Option Addr) (c' : Nat), k ≤ l.length ∧ i = .int .i64 k ∧ v = .slice A' (accTo l k).length c' ∧ AppO wr w.heap.size 69 (.slice A' (accTo l k).length c') (accTo l k) ∧ Below w.heap.size w wr) (fun _ i _ => l.length - (intOf i).toNat)
    case atStart => exact ⟨0, _, _, Nat.zero_le _, rfl, rfl, hO0, hB0⟩
    case round =>
      obtain ⟨k, A', c', hk, rfl, rfl, hown, hbw⟩ := hrel
      have HO := Lib.hid hown; clear hown hO0
      have HB := Lib.hid hbw; clear hbw hB0
      have hle := accTo_le l k
      have hl4 : (accTo l k).length ≤ 4194304 := by omega
      have hsz := HB.out.size
      by_cases hlt : k < l.length
      · obtain ⟨b, off, rfl, hb, h0, h1, h2⟩ := (hR.on HB.out).at_ hlt
        obtain ⟨_, ⟨k0, k4⟩, _⟩ := steps_at HA.out hlt
        by_cases h3 : 3 ≤ l[k].kind
        · have HY := Lib.hid (accTo_yes hlt h3)
          have HW := Lib.hid (show IntKind.i64.wrap (l[k].kind - 3) = l[k].kind - 3 by rw [IntKind.wrap_i64]; omega)
          have HOX := Lib.hid (show AppO (wr.alloc (.cells #[.int .i64 l[k].tx, .int .i64 (IntKind.i64.wrap (l[k].kind - 3)), .int .i64 l[k].item] 69)).drew w.heap.size 69 (.slice A' (accTo l k).length c') (accTo l k) from AppO.alloc HO.out _)
          have HNX := Lib.hid (show ∀ j u, (cellsO [⟨l[k].tx, IntKind.i64.wrap (l[k].kind - 3), l[k].item⟩])[j]? = some u → (wr.alloc (.cells #[.int .i64 l[k].tx, .int .i64 (IntKind.i64.wrap (l[k].kind - 3)), .int .i64 l[k].item] 69)).drew.cell? ((⟨wr.heap.size, 0, none⟩ : Addr).add j) = some u from fun j u hj => by
            rw [addr_add, Nat.zero_add]
            show (wr.alloc (.cells #[.int .i64 l[k].tx, .int .i64 (IntKind.i64.wrap (l[k].kind - 3)), .int .i64 l[k].item] 69)).cell? ⟨wr.heap.size, j, none⟩ = some u
            rw [World.cell?_alloc_new]
            simpa [cellsO] using hj)
          have HBX := Lib.hid (show Below w.heap.size w (wr.alloc (.cells #[.int .i64 l[k].tx, .int .i64 (IntKind.i64.wrap (l[k].kind - 3)), .int .i64 l[k].item] 69)).drew from Below.drew (Below.al HB.out _))
          have hbx := HBX.out.size
          go_wp2_with fail
          go_region_law (refine step_append_lies _ rfl (.tmp 24) (.tmp 42) 37 rfl w.heap.size 69 i0 _ 3 24 Try.underlying37 hi0 hz0 hz1 hz2 rfl (by decide) (.slice A' (accTo l k).length c') (accTo l k).length (cellsO (accTo l k)) (by simp [go_sem]) HOX.out ⟨wr.heap.size, 0, none⟩ 1 1 (cellsO [⟨l[k].tx, IntKind.i64.wrap (l[k].kind - 3), l[k].item⟩]) (by simp [go_sem]) rfl HNX.out (cellsO_one _) (by decide) (by unfold maxLen; omega) (by omega) hbx _ rfl ?_; intro g5 c5 w5 hO5 hg5 _ _)
          all_goals go_wp2
          all_goals exact ⟨⟨k + 1, _, c5, by omega, by go_num, by rw [HY.out, List.length_append]; rfl, by rw [HY.out]; unfold AppO; rw [List.length_append, cellsO_append, ← HW.out]; exact hO5, HBX.out.grown hg5 hbx (fun j hj => (HOX.out.lt j hj).1)⟩, by simp [intOf]; omega⟩
        · have HN := Lib.hid (accTo_no hlt h3)
          go_wp2_with fail
          exact ⟨⟨k + 1, A', c', by omega, by go_num, by rw [HN.out], by rw [HN.out]; exact HO.out, HB.out⟩, by simp [intOf]; omega⟩
      · have hk' : k = l.length := by omega
        have HP := Lib.hid (show accTo l k = accL l by rw [hk']; rfl)
        rw [HP.out] at HO hle ⊢
        clear hk'
        have ht4 := txs_le4 (accL l)
        go_wp2_with fail
        refine (spec_txs_any _ _ (accL l) _ (by omega) HO.out.own.rd).mono ?_
        rintro e w3 ⟨⟨v3, rfl, hO3⟩, hb3⟩
        have HOlt := Lib.hid (fun j hj => (HO.out.lt j hj).2 : ∀ j, (Value.slice A' (accL l).length c').ownBlock = some j → j < wr.heap.size)
        have HO3 := Lib.hid (HO.out.on hb3)
        obtain ⟨A3, c3, rfl, _, _, _⟩ := hO3.reads
        have HT3 := Lib.hid hO3; clear hO3
        have B3 := Lib.hid (Below.via hb3 HB.out)
        obtain ⟨wp, hwp⟩ : ∃ wp : World, wp = wr := ⟨_, rfl⟩
        subst hwp
        have hsep : ∀ j, (Value.slice A' (accL l).length c').ownBlock = some j → (Value.slice A3 (txsL (accL l)).length c3).ownBlock ≠ some j := fun j h1 h2 => by
          have := HOlt.out j h1; have := (OwnG.own_lt HT3.out j h2).1; omega
        clear HO HB hb3
        go_wp2_with fail
        go_loopw [4, 7] (fun v i wr => ∃ (k : Nat) (A' : Option Addr) (c' : Nat), k ≤ (txsL (accL l)).length ∧ i = .int .i64 k ∧ v = .slice A' (endTo (accL l) k).length c' ∧ AppO wr w.heap.size 69 (.slice A' (endTo (accL l) k).length c') (endTo (accL l) k) ∧ Below w.heap.size w wr ∧ OwnI wr wp.heap.size 3 (.slice A3 (txsL (accL l)).length c3) (txsL (accL l)) ∧ (∀ j, (Value.slice A' (endTo (accL l) k).length c').ownBlock = some j → (Value.slice A3 (txsL (accL l)).length c3).ownBlock ≠ some j)) (fun _ i _ => (txsL (accL l)).length - (intOf i).toNat)
        case atStart => exact ⟨0, A', c', Nat.zero_le _, rfl, by rw [endTo_0], by rw [endTo_0]; exact HO3.out, B3.out, HT3.out, by rw [endTo_0]; exact hsep⟩
        case round =>
          clear hsep HO3 HT3 B3
          obtain ⟨k, A', c', hk, rfl, rfl, hown, hbw, hT, hsep⟩ := hrel
          have HO := Lib.hid hown; clear hown
          have HB := Lib.hid hbw; clear hbw
          have HT := Lib.hid hT; clear hT
          have HS := Lib.hid hsep; clear hsep
          have hcl := endTo_le (accL l) k
          have hsz := HB.out.size
          have hl4 : (endTo (accL l) k).length ≤ 4194304 := by omega
          by_cases hlt : k < (txsL (accL l)).length
          · obtain ⟨b, off, he, hb, q0⟩ := HT.out.rd.at_ hlt
            subst he
            have HY := Lib.hid (endTo_succ hlt)
            go_wp2_with (at_builtin; refine wpList_app_oo _ 37 69 i0 rfl _ _ rfl Try.underlying37 hi0 hz0 hz1 hz2 w.heap.size _ _ rfl HO.out ⟨(txsL (accL l))[k], 2, 0⟩ _ rfl (by first | rfl | simp) hl4 hsz ?_; intro A5 c5 w5 hO5 hg5 hv5 hb5)
            refine ⟨⟨k + 1, A5, c5, by omega, by go_num, by rw [HY.out]; simp, by rw [HY.out, List.length_append]; exact hO5, HB.out.trans hb5, far_of (HT.out.alloc _) hg5 (fun j hj e => HS.out j e hj), ?_⟩, by simp [intOf]; omega⟩
            rw [HY.out, List.length_append]
            intro j hj hj2
            rcases hv5 with h | ⟨k5, h, hk5⟩
            · exact HS.out j (h.symm.trans hj) hj2
            · have := (OwnG.own_lt HT.out j hj2).2
              have hj' : (Value.slice A5 ((endTo (accL l) k).length + 1) c5).ownBlock = some j := hj
              rw [h] at hj'
              injection hj' with hj'
              omega
          · have hk' : k = (txsL (accL l)).length := by omega
            have HQ := Lib.hid (show endTo (accL l) k = acL l by rw [hk']; rfl)
            rw [HQ.out] at HO hcl ⊢
            by_cases h16 : (acL l).length ≤ 16
            · have hok : acOk l = true := by rw [hs]; simpa using h16
              have hcv : acV l = acL l := by unfold acV; rw [hok]; rfl
              go_wp2
              go_ret2
              exact ⟨⟨.slice A' (acL l).length c', by rw [hok]; rfl, by rw [hcv]; exact HO.out.own⟩, HB.out⟩
            · have hok : acOk l = false := by rw [hs]; simpa using h16
              have hcv : acV l = [] := by unfold acV; rw [hok]; rfl
              go_wp2
              go_ret2
              exact ⟨⟨.slice none 0 0, by rw [hok]; rfl, by rw [hcv]; exact OwnO.nil_⟩, HB.out⟩
set_option maxHeartbeats 1000000 in
theorem impl_AccessesOf_any (A : Option Addr) (c : Nat) (l : List O3) (w : World) (hl : l.length ≤ 1048576) (hR : RdO w w.heap.size A l) :
    Calls Try.prog 23 #[.slice A l.length c] w fun e w' => (∃ v, e = .returned (.tuple #[v, .bool (acOk l)]) ∧ OwnO w' w.heap.size 69 v (acV l)) ∧ Below w.heap.size w w' := by
  have HM := Lib.hid (show l.length ≤ maxLen by unfold maxLen; omega); clear hl
  obtain ⟨i0, hi0, hz0, hz1, hz2⟩ := info_parts info_O
  cases hv : stepsB l
  · have hs : acOk l = false := by unfold acOk; rw [hv]; rfl
    have hs2 : acV l = [] := by unfold acV; rw [hs]; rfl
    rw [hs, hs2]
    have HV := Lib.hid hv; clear hv hs hs2
    go_enter Try.func23, Try.ntmps23
    go_wp2_with (go_at_call 39; refine (impl_ValidSteps_any _ _ _ _ HM.out hR).mono ?_; rintro e w1 ⟨rfl, hb1⟩; rw [HV.out])
    go_ret2
    exact ⟨⟨_, rfl, OwnO.nil_⟩, by (repeat' (first | (with_reducible exact Below.refl _ _) | (with_reducible assumption) | (with_reducible refine Below.al ?_ _) | (with_reducible refine Below.drew ?_) | (with_reducible refine Below.drN ?_ _) | (with_reducible refine Below.via (by with_reducible assumption) ?_) | (with_reducible refine Below.setc ?_ ?_ _) | (with_reducible exact Nat.le_refl _) | (simp; done) | (simp; omega)))⟩
  · have hs : acOk l = decide ((acL l).length ≤ 16) := by unfold acOk; rw [hv]; rfl
    have hlen := steps_len hv
    have HA := Lib.hid (steps_all hv)
    have HV := Lib.hid hv; clear hv
    go_enter Try.func23, Try.ntmps23
    go_wp2_with fail
    refine (impl_ValidSteps_any _ _ _ _ HM.out hR).mono ?_
    rintro e w1 ⟨rfl, hb1⟩
    rw [HV.out]
    have R1 := Lib.hid (hR.on hb1)
    have HB1 := Lib.hid hb1; clear hb1
    have hB0 : Below w1.heap.size w1 (w1.alloc (Obj.cells #[] 69)) := by (repeat' (first | (with_reducible exact Below.refl _ _) | (with_reducible assumption) | (with_reducible refine Below.al ?_ _) | (with_reducible refine Below.drew ?_) | (with_reducible refine Below.drN ?_ _) | (with_reducible refine Below.via (by with_reducible assumption) ?_) | (with_reducible refine Below.setc ?_ ?_ _) | (with_reducible exact Nat.le_refl _) | (simp; done) | (simp; omega)))
    have hO0 : AppO (w1.alloc (Obj.cells #[] 69)) w1.heap.size 69 (.slice (some ⟨w1.heap.size, 0, none⟩) 0 0) [] := AppO.made (Nat.le_refl _) _ _ (by simp [maxLen]) rfl
    go_wp2_with fail
    go_loopw [4, 15] (fun v i wr => ∃ (k : Nat) (A' : Option Addr) (c' : Nat), k ≤ l.length ∧ i = .int .i64 k ∧ v = .slice A' (accTo l k).length c' ∧ AppO wr w1.heap.size 69 (.slice A' (accTo l k).length c') (accTo l k) ∧ Below w1.heap.size w1 wr) (fun _ i _ => l.length - (intOf i).toNat)
    case atStart => exact ⟨0, _, _, Nat.zero_le _, rfl, rfl, hO0, hB0⟩
    case round =>
      obtain ⟨k, A', c', hk, rfl, rfl, hown, hbw⟩ := hrel
      have HO := Lib.hid hown; clear hown hO0
      have HB := Lib.hid hbw; clear hbw hB0
      have hle := accTo_le l k
      have hl4 : (accTo l k).length ≤ 4194304 := by omega
      have hsz := HB.out.size
      by_cases hlt : k < l.length
      · obtain ⟨b, off, rfl, hb, h0, h1, h2⟩ := (R1.out.on HB.out).at_ hlt
        obtain ⟨_, ⟨k0, k4⟩, _⟩ := steps_at HA.out hlt
        by_cases h3 : l[k].kind = 3
        · have HY := Lib.hid (accTo_yes hlt (by omega : 3 ≤ l[k].kind))
          rw [h3] at h1
          rw [h3] at HY
          clear k0 k4
          go_wp2_with (at_builtin; refine wpList_app_o _ 37 69 i0 rfl _ _ rfl Try.underlying37 hi0 hz0 hz1 hz2 w1.heap.size _ _ rfl (HO.out.alloc _) ⟨l[k].tx, 0, l[k].item⟩ _ rfl (by first | rfl | simp) hl4 (by simp; omega) ?_; intro A5 c5 w5 hO5 hg5 hb5)
          exact ⟨⟨k + 1, A5, c5, by omega, by go_num, by rw [HY.out]; simp, by rw [HY.out, List.length_append]; exact hO5, (Below.alloc HB.out (by have := HB.out.size; omega) _).trans hb5⟩, by simp [intOf]; omega⟩
        · by_cases h4 : l[k].kind = 4
          · have HY := Lib.hid (accTo_yes hlt (by omega : 3 ≤ l[k].kind))
            rw [h4] at h1
            rw [h4] at HY
            clear k0 k4
            go_wp2_with (at_builtin; refine wpList_app_o _ 37 69 i0 rfl _ _ rfl Try.underlying37 hi0 hz0 hz1 hz2 w1.heap.size _ _ rfl (HO.out.alloc _) ⟨l[k].tx, 1, l[k].item⟩ _ rfl (by first | rfl | simp) hl4 (by simp; omega) ?_; intro A5 c5 w5 hO5 hg5 hb5)
            exact ⟨⟨k + 1, A5, c5, by omega, by go_num, by rw [HY.out]; simp, by rw [HY.out, List.length_append]; exact hO5, (Below.alloc HB.out (by have := HB.out.size; omega) _).trans hb5⟩, by simp [intOf]; omega⟩
          · have HN := Lib.hid (accTo_no hlt (by omega : ¬ 3 ≤ l[k].kind))
            go_wp2_with fail
            exact ⟨⟨k + 1, A', c', by omega, by go_num, by rw [HN.out], by rw [HN.out]; exact HO.out.alloc _, Below.alloc HB.out hsz _⟩, by simp [intOf]; omega⟩
      · have hk' : k = l.length := by omega
        have HP := Lib.hid (show accTo l k = accL l by rw [hk']; rfl)
        rw [HP.out] at HO hle ⊢
        clear hk'
        have ht4 := txs_le4 (accL l)
        go_wp2_with fail
        refine (impl_txsOf_any _ _ (accL l) _ (by omega) HO.out.own.rd).mono ?_
        rintro e w3 ⟨⟨v3, rfl, hO3⟩, hb3⟩
        have HOlt := Lib.hid (fun j hj => (HO.out.lt j hj).2 : ∀ j, (Value.slice A' (accL l).length c').ownBlock = some j → j < wr.heap.size)
        have HO3 := Lib.hid (HO.out.on hb3)
        obtain ⟨A3, c3, rfl, _, _, _⟩ := hO3.reads
        have HT3 := Lib.hid hO3; clear hO3
        have B3 := Lib.hid (Below.via hb3 HB.out)
        obtain ⟨wp, hwp⟩ : ∃ wp : World, wp = wr := ⟨_, rfl⟩
        subst hwp
        have hsep : ∀ j, (Value.slice A' (accL l).length c').ownBlock = some j → (Value.slice A3 (txsL (accL l)).length c3).ownBlock ≠ some j := fun j h1 h2 => by
          have := HOlt.out j h1; have := (OwnG.own_lt HT3.out j h2).1; omega
        clear HO HB hb3
        go_wp2_with fail
        go_loopw [4, 45] (fun v i wr => ∃ (k : Nat) (A' : Option Addr) (c' : Nat), k ≤ (txsL (accL l)).length ∧ i = .int .i64 k ∧ v = .slice A' (endTo (accL l) k).length c' ∧ AppO wr w1.heap.size 69 (.slice A' (endTo (accL l) k).length c') (endTo (accL l) k) ∧ Below w1.heap.size w1 wr ∧ OwnI wr wp.heap.size 3 (.slice A3 (txsL (accL l)).length c3) (txsL (accL l)) ∧ (∀ j, (Value.slice A' (endTo (accL l) k).length c').ownBlock = some j → (Value.slice A3 (txsL (accL l)).length c3).ownBlock ≠ some j)) (fun _ i _ => (txsL (accL l)).length - (intOf i).toNat)
        case atStart => exact ⟨0, A', c', Nat.zero_le _, rfl, by rw [endTo_0], by rw [endTo_0]; exact HO3.out, B3.out, HT3.out, by rw [endTo_0]; exact hsep⟩
        case round =>
          clear hsep HO3 HT3 B3
          obtain ⟨k, A', c', hk, rfl, rfl, hown, hbw, hT, hsep⟩ := hrel
          have HO := Lib.hid hown; clear hown
          have HB := Lib.hid hbw; clear hbw
          have HT := Lib.hid hT; clear hT
          have HS := Lib.hid hsep; clear hsep
          have hcl := endTo_le (accL l) k
          have hsz := HB.out.size
          have hl4 : (endTo (accL l) k).length ≤ 4194304 := by omega
          by_cases hlt : k < (txsL (accL l)).length
          · obtain ⟨b, off, he, hb, q0⟩ := HT.out.rd.at_ hlt
            subst he
            have HY := Lib.hid (endTo_succ hlt)
            go_wp2_with (at_builtin; refine wpList_app_oo _ 37 69 i0 rfl _ _ rfl Try.underlying37 hi0 hz0 hz1 hz2 w1.heap.size _ _ rfl HO.out ⟨(txsL (accL l))[k], 2, 0⟩ _ rfl (by first | rfl | simp) hl4 hsz ?_; intro A5 c5 w5 hO5 hg5 hv5 hb5)
            refine ⟨⟨k + 1, A5, c5, by omega, by go_num, by rw [HY.out]; simp, by rw [HY.out, List.length_append]; exact hO5, HB.out.trans hb5, far_of (HT.out.alloc _) hg5 (fun j hj e => HS.out j e hj), ?_⟩, by simp [intOf]; omega⟩
            rw [HY.out, List.length_append]
            intro j hj hj2
            rcases hv5 with h | ⟨k5, h, hk5⟩
            · exact HS.out j (h.symm.trans hj) hj2
            · have := (OwnG.own_lt HT.out j hj2).2
              have hj' : (Value.slice A5 ((endTo (accL l) k).length + 1) c5).ownBlock = some j := hj
              rw [h] at hj'
              injection hj' with hj'
              omega
          · have hk' : k = (txsL (accL l)).length := by omega
            have HQ := Lib.hid (show endTo (accL l) k = acL l by rw [hk']; rfl)
            rw [HQ.out] at HO hcl ⊢
            by_cases h16 : (acL l).length ≤ 16
            · have hok : acOk l = true := by rw [hs]; simpa using h16
              have hcv : acV l = acL l := by unfold acV; rw [hok]; rfl
              have hcap := HO.out.cap.1
              go_wp2_with (go_at_call 53; refine (Clip_Op_any _ _ _ _ hcap).mono ?_; rintro e w6 ⟨rfl, rfl⟩)
              go_ret2
              exact ⟨⟨.slice A' (acL l).length (acL l).length, by rw [hok]; rfl, by rw [hcv]; exact (HO.out.own.cut rfl).low HB1.out.size⟩, Below.trans HB1.out (HB.out.mono HB1.out.size)⟩
            · have hok : acOk l = false := by rw [hs]; simpa using h16
              have hcv : acV l = [] := by unfold acV; rw [hok]; rfl
              go_wp2
              go_ret2
              exact ⟨⟨.slice none 0 0, by rw [hok]; rfl, by rw [hcv]; exact OwnO.nil_⟩, Below.trans HB1.out (HB.out.mono HB1.out.size)⟩
end Go.Proofs.Ytajmhgekmjhoaaa
