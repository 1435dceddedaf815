/- RunStamps: the program's small functions (span, marksOf, stream) and the reference's RunStamps. -/
import Derived.Test.YtejipiadapggmaaRsW
import Derived.Test.YtejipiadapggmaaChan
import Derived.Test.YtejipiadapggmaaLkJ
import Derived.Conc.SmallLaws
import Derived.Conc.EventLaws
namespace Go.Proofs.Ytejipiadapggmaa
set_option linter.unusedSimpArgs false
set_option linter.unusedVariables false
open Go.RowKit

/-- RunStamps's two results in memory. -/
structure RsP (w : World) (B : Nat) (v1 v2 : Value) (d : List O3) (x : List Int) : Prop where
  o : OwnO w B 60 v1 d
  i : OwnI w B 3 v2 x
  ne : ∀ k, v1.ownBlock = some k → v2.ownBlock ≠ some k
theorem RsP.nil_ (w : World) (B : Nat) : RsP w B (.slice none 0 0) (.slice none 0 0) [] [] := ⟨OwnO.nil_, OwnI.nil_, fun k e => by simp [Value.ownBlock] at e⟩
theorem rs_ok {l : List O3} (h : lkOk l = true) : (∀ o ∈ l, validB o = true) ∧ l.length ≤ 12 := by
  unfold lkOk at h
  simp only [Bool.and_eq_true, decide_eq_true_eq] at h
  exact ⟨fun o ho => by obtain ⟨k, hk, rfl⟩ := List.getElem_of_mem ho; exact ((tt_eq.1 h.1).2 k hk).2.1, h.2⟩
theorem first_idx {l : List O3} {t : Int} (h : ∃ j, ∃ hj : j < l.length, l[j].tx = t) : idxB (fun o : O3 => o.tx == t) l = (firstOf l t : Nat) := by
  obtain ⟨j, hj, e⟩ := h
  unfold idxB firstOf
  cases hf : l.findIdx? (fun o => o.tx == t) with
  | none => rw [List.findIdx?_eq_none_iff] at hf; have := hf l[j] (List.getElem_mem hj); simp [e] at this
  | some i => rfl
set_option maxHeartbeats 1000000 in
theorem spec_RunStamps_any (A : Option Addr) (c : Nat) (l : List O3) (skip : Bool) (w : World) (hl : l.length ≤ 1048576) (hR : RdO w w.heap.size A l) :
    Calls Try.prog 17 #[.slice A l.length c, .bool skip] w fun e w' => (∃ v1 v2, e = .returned (.tuple #[v1, v2]) ∧ RsP w' w.heap.size v1 v2 (rsD l skip) (rsX l skip)) ∧ Below w.heap.size w w' := by
  have HM := Lib.hid (show l.length ≤ maxLen by unfold maxLen; omega)
  cases hv : tt (ValidP l)
  · have hk : lkOk l = false := by unfold lkOk; rw [hv]; rfl
    have HV := Lib.hid hv
    rw [rsD, rsX, hk]
    clear hv hk
    go_enter Try.func17, Try.ntmps17
    go_wp2_with (go_at_call 38; refine (spec_validSchedule_any _ _ _ _ HM.out hR).mono ?_; rintro e w1 ⟨rfl, hb1⟩; rw [HV.out])
    go_ret2
    exact ⟨⟨_, _, rfl, RsP.nil_ _ _⟩, by (repeat' (first | (with_reducible exact Below.refl _ _) | (with_reducible assumption) | (with_reducible refine Below.al ?_ _) | (with_reducible refine Below.drew ?_) | (with_reducible refine Below.drN ?_ _) | (with_reducible refine Below.via (by with_reducible assumption) ?_) | (with_reducible refine Below.setc ?_ ?_ _) | (with_reducible exact Nat.le_refl _) | (simp; done) | (simp; omega)))⟩
  · have HV := Lib.hid hv
    by_cases h12 : l.length ≤ 12
    · have hk : lkOk l = true := by unfold lkOk; rw [hv]; simp [h12]
      rw [rsD, rsX, hk]
      have hva := (rs_ok hk).1
      clear hv hk
      have h12' : ((l.length : Int) > 12) = False := by simp; omega
      have h12'' : (l.length : Int) ≤ 12 := by omega
      go_enter Try.func17, Try.ntmps17
      go_wp2_with (first | (go_at_call 38; refine (spec_validSchedule_any _ _ _ _ HM.out hR).mono ?_; rintro e w1 ⟨rfl, hb1⟩; rw [HV.out]) | (go_at_call 39; refine (spec_runStamps_any _ _ l _ _ h12 hva (hR.on hb1)).mono ?_; rintro e w2 ⟨⟨v1, v2, rfl, hT⟩, hb2⟩))
      go_ret2
      exact ⟨⟨_, _, rfl, hT.o.own.low hb1.size, hT.i.own.low hb1.size, hT.ne⟩, by (repeat' (first | (with_reducible exact Below.refl _ _) | (with_reducible assumption) | (with_reducible refine Below.al ?_ _) | (with_reducible refine Below.drew ?_) | (with_reducible refine Below.drN ?_ _) | (with_reducible refine Below.via (by with_reducible assumption) ?_) | (with_reducible refine Below.setc ?_ ?_ _) | (with_reducible exact Nat.le_refl _) | (simp; done) | (simp; omega)))⟩
    · have hk : lkOk l = false := by unfold lkOk; rw [hv]; simp; omega
      rw [rsD, rsX, hk]
      clear hv hk
      have h12' : (12 : Int) < l.length := by omega
      go_enter Try.func17, Try.ntmps17
      go_wp2_with (go_at_call 38; refine (spec_validSchedule_any _ _ _ _ HM.out hR).mono ?_; rintro e w1 ⟨rfl, hb1⟩; rw [HV.out])
      go_ret2
      exact ⟨⟨_, _, rfl, RsP.nil_ _ _⟩, by (repeat' (first | (with_reducible exact Below.refl _ _) | (with_reducible assumption) | (with_reducible refine Below.al ?_ _) | (with_reducible refine Below.drew ?_) | (with_reducible refine Below.drN ?_ _) | (with_reducible refine Below.via (by with_reducible assumption) ?_) | (with_reducible refine Below.setc ?_ ?_ _) | (with_reducible exact Nat.le_refl _) | (simp; done) | (simp; omega)))⟩
set_option maxHeartbeats 1000000 in
theorem impl_span_any (A : Option Addr) (c : Nat) (l : List O3) (t : Int) (w : World) (hl : l.length ≤ maxLen) (hR : RdO w w.heap.size A l) :
    Calls Try.prog 44 #[.slice A l.length c, .int .i64 t] w fun e w' => (∃ y, e = .returned (.tuple #[.int .i64 (idxB (fun o : O3 => o.tx == t) l), y])) ∧ Below w.heap.size w w' := by
  unfold maxLen at hl
  go_enter Try.func44, Try.ntmps44
  go_wp2_with fail
  go_loopw [6, 7, 8, 9, 12] (fun v6 _ _ _ v12 wr => ∃ k : Nat, k ≤ l.length ∧ v12 = .int .i64 k ∧ ((v6 = .int .i64 (-1) ∧ (l.take k).findIdx? (fun o => o.tx == t) = none) ∨ (∃ n : Nat, v6 = .int .i64 n ∧ idxB (fun o : O3 => o.tx == t) l = n)) ∧ Below w.heap.size w wr) (fun _ _ _ _ v12 _ => l.length - (intOf v12).toNat)
  case atStart => exact ⟨0, Nat.zero_le _, rfl, .inl ⟨rfl, rfl⟩, Below.refl _ _⟩
  case round =>
    obtain ⟨k, hk, rfl, hv6, hbw⟩ := hrel
    have HB := Lib.hid hbw; clear hbw
    by_cases hlt : k < l.length
    · obtain ⟨b, off, rfl, hb, h0, h1, h2⟩ := (hR.on HB.out).at_ hlt
      cases e1 : (l[k].tx != t)
      · rcases hv6 with ⟨rfl, hn⟩ | ⟨n, rfl, hn⟩
        · have HN := Lib.hid hn; clear hn
          go_wp2
          exact ⟨⟨k + 1, by omega, by go_num, .inr ⟨k, rfl, (idx_hit (p := fun o : O3 => o.tx == t) hlt HN.out (by simpa using e1)).symm⟩, by have hbw := HB.out; (repeat' (first | (with_reducible exact Below.refl _ _) | (with_reducible assumption) | (with_reducible refine Below.al ?_ _) | (with_reducible refine Below.drew ?_) | (with_reducible refine Below.drN ?_ _) | (with_reducible refine Below.via (by with_reducible assumption) ?_) | (with_reducible refine Below.setc ?_ ?_ _) | (with_reducible exact Nat.le_refl _) | (simp; done) | (simp; omega)))⟩, by simp [intOf]; omega⟩
        · have HN := Lib.hid hn; clear hn
          have hn0 : ¬ ((n : Int) < 0) := by omega
          go_wp2
          exact ⟨⟨k + 1, by omega, by go_num, .inr ⟨n, rfl, HN.out⟩, by have hbw := HB.out; (repeat' (first | (with_reducible exact Below.refl _ _) | (with_reducible assumption) | (with_reducible refine Below.al ?_ _) | (with_reducible refine Below.drew ?_) | (with_reducible refine Below.drN ?_ _) | (with_reducible refine Below.via (by with_reducible assumption) ?_) | (with_reducible refine Below.setc ?_ ?_ _) | (with_reducible exact Nat.le_refl _) | (simp; done) | (simp; omega)))⟩, by simp [intOf]; omega⟩
      · go_wp2
        refine ⟨⟨k + 1, by omega, by go_num, ?_, by have hbw := HB.out; (repeat' (first | (with_reducible exact Below.refl _ _) | (with_reducible assumption) | (with_reducible refine Below.al ?_ _) | (with_reducible refine Below.drew ?_) | (with_reducible refine Below.drN ?_ _) | (with_reducible refine Below.via (by with_reducible assumption) ?_) | (with_reducible refine Below.setc ?_ ?_ _) | (with_reducible exact Nat.le_refl _) | (simp; done) | (simp; omega)))⟩, by simp [intOf]; omega⟩
        rcases hv6 with ⟨rfl, hn⟩ | h
        · exact .inl ⟨rfl, idx_on (p := fun o : O3 => o.tx == t) hlt hn (by simpa using e1)⟩
        · exact .inr h
    · have hk' : k = l.length := by omega
      have HK := Lib.hid hk'; clear hk'
      rcases hv6 with ⟨rfl, hn⟩ | ⟨n, rfl, hn⟩
      · have HN := Lib.hid hn; clear hn
        go_wp2
        go_ret2
        exact ⟨⟨_, by rw [← idx_none (by have h := HN.out; rwa [HK.out, List.take_length] at h)]; rfl⟩, HB.out⟩
      · have HN := Lib.hid hn; clear hn
        go_wp2
        go_ret2
        exact ⟨⟨_, by rw [HN.out]; rfl⟩, HB.out⟩
/-- What has been filled. -/
def fill1 (k : Nat) : Int → Int := fun t => if t < k then -1 else 0
theorem fill1_step (k : Nat) : fill1 (k + 1) = up1 (fill1 k) k (-1) := by
  funext t
  unfold fill1 up1
  by_cases h : t = k
  · subst h; simp; omega
  · simp only [h, if_false]
    by_cases h2 : t < k
    · rw [if_pos (by omega), if_pos h2]
    · rw [if_neg (by omega), if_neg h2]
set_option maxRecDepth 8192 in
set_option maxHeartbeats 1000000 in
theorem impl_marksOf_any (w : World) :
    Calls Try.prog 42 #[] w fun e w' => (∃ g, e = .returned (.pointer (some ⟨g, 0, none⟩)) ∧ w.heap.size ≤ g ∧ MkAt w' g 0 (fun _ => -1) (fun _ => -1)) ∧ Below w.heap.size w w' := by
  go_enter Try.func42, Try.ntmps42
  go_wp2_with fail
  go_loopw [2, 5] (fun _ v5 wr => ∃ k : Nat, k ≤ 3 ∧ v5 = .int .i64 k ∧ MkAt wr w.heap.size 0 (fill1 k) (fill1 k) ∧ Below w.heap.size w wr) (fun _ v5 _ => 3 - (intOf v5).toNat)
  case atStart => exact ⟨0, by omega, rfl, by unfold MkAt; rw [heap_alloc_new]; rfl, by (repeat' (first | (with_reducible exact Below.refl _ _) | (with_reducible assumption) | (with_reducible refine Below.al ?_ _) | (with_reducible refine Below.drew ?_) | (with_reducible refine Below.drN ?_ _) | (with_reducible refine Below.via (by with_reducible assumption) ?_) | (with_reducible refine Below.setc ?_ ?_ _) | (with_reducible exact Nat.le_refl _) | (simp; done) | (simp; omega)))⟩
  case round =>
    obtain ⟨k, hk, rfl, hT, hbw⟩ := hrel
    have HB := Lib.hid hbw; clear hbw
    by_cases hlt : k < 3
    · have hk3 : (k : Int) < 3 := by omega
      have c1 := hT.rdc hlt
      have c2 := hT.wrc hlt
      have c3 := hT.fz
      have c4 := hT.lt
      have HT := Lib.hid hT; clear hT
      go_wp2_with fail
      go_region
      all_goals go_wp2_with fail
      all_goals exact ⟨⟨k + 1, by omega, by go_num, by rw [fill1_step]; exact ((HT.out.setR hlt (-1)).setW hlt (-1)).drew, by have hbw := HB.out; (repeat' (first | (with_reducible exact Below.refl _ _) | (with_reducible assumption) | (with_reducible refine Below.al ?_ _) | (with_reducible refine Below.drew ?_) | (with_reducible refine Below.drN ?_ _) | (with_reducible refine Below.via (by with_reducible assumption) ?_) | (with_reducible refine Below.setc ?_ ?_ _) | (with_reducible exact Nat.le_refl _) | (simp; done) | (simp; omega)))⟩, by simp [intOf]; omega⟩
    · have hk' : k = 3 := by omega
      subst hk'
      have HT := Lib.hid hT; clear hT
      go_wp2
      go_ret
      exact ⟨⟨_, rfl, Nat.le_refl _, HT.out⟩, HB.out⟩
end Go.Proofs.Ytejipiadapggmaa
