/- Who commits on snapshots: contracts of the program's functions. -/
import Derived.Test.YtafjlklcffbbfaaVerS
namespace Go.Proofs.Ytafjlklcffbbfaa
set_option linter.unusedSimpArgs false
set_option linter.unusedVariables false
open Go.RowKit

set_option maxHeartbeats 1000000 in
theorem impl_span_any (A : Option Addr) (c : Nat) (l : List O3) (t : Int) (w : World) (hl : l.length ≤ 1000) (hR : RdO w w.heap.size A l) :
    Calls Try.prog 80 #[.slice A l.length c, .int .i64 t] w fun e w' => (∃ last : Int, e = .returned (.tuple #[.int .i64 (idxB (fun o => o.tx == t) l), .int .i64 last])) ∧ Below w.heap.size w w' := by
  go_enter Try.func80, Try.ntmps80
  go_wp2_with fail
  go_loopw [6, 7, 12] (fun v6 v7 v12 wr => ∃ (k : Nat) (f last : Int), k ≤ l.length ∧ v12 = .int .i64 k ∧ v6 = .int .i64 f ∧ v7 = .int .i64 last ∧ ((f = -1 ∧ (l.take k).findIdx? (fun o => o.tx == t) = none) ∨ (0 ≤ f ∧ f = idxB (fun o => o.tx == t) l)) ∧ Below w.heap.size w wr) (fun _ _ v12 _ => l.length - (intOf v12).toNat)
  case atStart => exact ⟨0, -1, -1, Nat.zero_le _, rfl, rfl, rfl, .inl ⟨rfl, rfl⟩, Below.refl _ _⟩
  case round =>
    obtain ⟨k, f, last, hk, rfl, rfl, rfl, hf, hbw⟩ := hrel
    have HB := Lib.hid hbw; clear hbw
    by_cases hlt : k < l.length
    · obtain ⟨b, off, rfl, hb, h0, h1, h2⟩ := (hR.on HB.out).at_ hlt
      cases e1 : (l[k].tx == t)
      · have e2 : (l[k].tx != t) = true := by rw [bne, e1]; rfl
        have HF := Lib.hid (show (f = -1 ∧ (l.take (k + 1)).findIdx? (fun o => o.tx == t) = none) ∨ (0 ≤ f ∧ f = idxB (fun o => o.tx == t) l) from hf.elim (fun h => .inl ⟨h.1, idx_on hlt h.2 e1⟩) .inr)
        clear hf e1
        go_wp2_with fail
        exact ⟨⟨k + 1, f, last, by omega, by go_num, rfl, rfl, HF.out, by have hbw := HB.out; (repeat' (first | (with_reducible exact Below.refl _ _) | (with_reducible assumption) | (with_reducible refine Below.al ?_ _) | (with_reducible refine Below.drew ?_) | (with_reducible refine Below.drN ?_ _) | (with_reducible refine Below.via (by with_reducible assumption) ?_) | (with_reducible refine Below.setc ?_ ?_ _) | (with_reducible exact Nat.le_refl _) | (simp; done) | (simp; omega)))⟩, by simp [intOf]; omega⟩
      · have e2 : (l[k].tx != t) = false := by rw [bne, e1]; rfl
        rcases hf with ⟨hf, hn⟩ | ⟨hf, hn⟩
        · have HF := Lib.hid (idx_hit (p := fun o : O3 => o.tx == t) hlt hn e1)
          subst hf
          clear e1 hn
          go_wp2_with fail
          exact ⟨⟨k + 1, k, k, by omega, by go_num, rfl, rfl, .inr ⟨by omega, HF.out⟩, by have hbw := HB.out; (repeat' (first | (with_reducible exact Below.refl _ _) | (with_reducible assumption) | (with_reducible refine Below.al ?_ _) | (with_reducible refine Below.drew ?_) | (with_reducible refine Below.drN ?_ _) | (with_reducible refine Below.via (by with_reducible assumption) ?_) | (with_reducible refine Below.setc ?_ ?_ _) | (with_reducible exact Nat.le_refl _) | (simp; done) | (simp; omega)))⟩, by simp [intOf]; omega⟩
        · have HF := Lib.hid hn
          have hfn : ¬ f < 0 := by omega
          clear e1 hn
          go_wp2_with fail
          exact ⟨⟨k + 1, f, k, by omega, by go_num, rfl, rfl, .inr ⟨hf, HF.out⟩, by have hbw := HB.out; (repeat' (first | (with_reducible exact Below.refl _ _) | (with_reducible assumption) | (with_reducible refine Below.al ?_ _) | (with_reducible refine Below.drew ?_) | (with_reducible refine Below.drN ?_ _) | (with_reducible refine Below.via (by with_reducible assumption) ?_) | (with_reducible refine Below.setc ?_ ?_ _) | (with_reducible exact Nat.le_refl _) | (simp; done) | (simp; omega)))⟩, by simp [intOf]; omega⟩
    · have hk' : k = l.length := by omega
      have HFF := Lib.hid (show f = idxB (fun o => o.tx == t) l by
        rcases hf with ⟨h1, h2⟩ | ⟨_, h2⟩
        · rw [hk', List.take_length] at h2
          rw [h1]; exact idx_none h2
        · exact h2)
      clear hf hk'
      go_wp2
      go_ret2
      exact ⟨⟨last, by rw [← HFF.out]; rfl⟩, HB.out⟩
set_option maxHeartbeats 400000 in
theorem impl_firstOf_any (A : Option Addr) (c : Nat) (l : List O3) (t : Int) (n : Int) (w : World) (hn : idxB (fun o => o.tx == t) l = n) (hl : l.length ≤ 1000) (hR : RdO w w.heap.size A l) :
    Calls Try.prog 52 #[.slice A l.length c, .int .i64 t] w fun e w' => e = .returned (.int .i64 n) ∧ Below w.heap.size w w' := by
  subst hn
  go_enter Try.func52, Try.ntmps52
  go_wp2_with fail
  refine (impl_span_any _ _ _ _ _ hl hR).mono ?_
  rintro e w1 ⟨⟨last, rfl⟩, hb1⟩
  go_wp2
  go_ret
  exact ⟨rfl, hb1⟩
set_option maxHeartbeats 400000 in
theorem impl_commitOf_any (A : Option Addr) (c : Nat) (l : List O3) (u : Int) (n : Int) (w : World) (hn : idxB (fun o => O3.eqb ⟨u, 2, 0⟩ o) l = n) (hl : l.length ≤ maxLen) (hR : RdO w w.heap.size A l) :
    Calls Try.prog 51 #[.slice A l.length c, .int .i64 u] w fun e w' => e = .returned (.int .i64 n) ∧ Below w.heap.size w w' := by
  subst hn
  go_enter Try.func51, Try.ntmps51
  go_wp2_with fail
  refine (Index_Op_any _ _ _ _ _ _ _ hl hR).mono ?_
  rintro e w1 ⟨rfl, hb1⟩
  go_wp2
  go_ret
  exact ⟨rfl, hb1⟩

/-! ### The items that a transaction writes, as bits -/
def maskI (a b c : Bool) : Int := (if a then 1 else 0) + (if b then 2 else 0) + (if c then 4 else 0)
theorem or_mask0 (a b c : Bool) : bits .or .i64 (maskI a b c) 1 = maskI true b c := by cases a <;> cases b <;> cases c <;> decide
theorem or_mask1 (a b c : Bool) : bits .or .i64 (maskI a b c) 2 = maskI a true c := by cases a <;> cases b <;> cases c <;> decide
theorem or_mask2 (a b c : Bool) : bits .or .i64 (maskI a b c) 4 = maskI a b true := by cases a <;> cases b <;> cases c <;> decide
theorem and_mask (a b c a' b' c' : Bool) : (bits .and .i64 (maskI a b c) (maskI a' b' c') != 0) = ((a && a') || (b && b') || (c && c')) := by cases a <;> cases b <;> cases c <;> cases a' <;> cases b' <;> cases c' <;> decide
theorem bit_mask0 (a b c : Bool) : (bits .and .i64 (maskI a b c) 1 == 1) = a := by cases a <;> cases b <;> cases c <;> decide
theorem bit_mask1 (a b c : Bool) : (bits .and .i64 (maskI a b c / 2) 1 == 1) = b := by cases a <;> cases b <;> cases c <;> decide
theorem bit_mask2 (a b c : Bool) : (bits .and .i64 (maskI a b c / 4) 1 == 1) = c := by cases a <;> cases b <;> cases c <;> decide
def maskAt (l : List O3) (k : Nat) (t : Int) : Int := maskI (tchB l k t 1 0) (tchB l k t 1 1) (tchB l k t 1 2)
theorem mask_no {l : List O3} {k : Nat} {t : Int} (hk : k < l.length) (h : (l[k].tx == t && l[k].kind == 1) = false) : maskAt l (k + 1) t = maskAt l k t := by
  unfold maskAt
  have e : ∀ x : Int, (l[k].tx == t && (l[k].kind == 1 && l[k].item == x)) = false := fun x => by rw [← Bool.and_assoc, h]; rfl
  rw [tch_next hk, tch_next hk, tch_next hk, e, e, e]; simp
theorem mask_hit {l : List O3} {k : Nat} {t : Int} (hk : k < l.length) (h : (l[k].tx == t && l[k].kind == 1) = true) (a b c : Bool) (ha : (l[k].item == 0) = a) (hb : (l[k].item == 1) = b) (hc : (l[k].item == 2) = c) :
    maskAt l (k + 1) t = maskI (tchB l k t 1 0 || a) (tchB l k t 1 1 || b) (tchB l k t 1 2 || c) := by
  unfold maskAt
  have e : ∀ x : Int, (l[k].tx == t && (l[k].kind == 1 && l[k].item == x)) = (l[k].item == x) := fun x => by rw [← Bool.and_assoc, h]; simp
  rw [tch_next hk, tch_next hk, tch_next hk, e, e, e, ha, hb, hc]
theorem valid_item3 {l : List O3} (hv : ValidP l) {k : Nat} (hk : k < l.length) : l[k].item = 0 ∨ l[k].item = 1 ∨ l[k].item = 2 := by
  have h := (hv.2 k hk).2.1
  simp [validB, inR] at h
  omega
set_option maxHeartbeats 1000000 in
theorem impl_writesOf_any (A : Option Addr) (c : Nat) (l : List O3) (t : Int) (w : World) (hv : ValidP l) (hR : RdO w w.heap.size A l) :
    Calls Try.prog 53 #[.slice A l.length c, .int .i64 t] w fun e w' => e = .returned (.int .i64 (maskAt l l.length t)) ∧ Below w.heap.size w w' := by
  have hl := hv.1
  have HV := Lib.hid hv; clear hv
  go_enter Try.func53, Try.ntmps53
  go_wp2_with fail
  go_loopw [5, 10] (fun v5 v10 wr => ∃ k : Nat, k ≤ l.length ∧ v10 = .int .i64 k ∧ v5 = .int .i64 (maskAt l k t) ∧ Below w.heap.size w wr) (fun _ v10 _ => l.length - (intOf v10).toNat)
  case atStart => exact ⟨0, Nat.zero_le _, rfl, rfl, Below.refl _ _⟩
  case round =>
    obtain ⟨k, hk, rfl, rfl, hbw⟩ := hrel
    have HB := Lib.hid hbw; clear hbw
    by_cases hlt : k < l.length
    · obtain ⟨b, off, rfl, hb, h0, h1, h2⟩ := (hR.on HB.out).at_ hlt
      rcases and2 (l[k].tx == t) (l[k].kind == 1) with e1 | ⟨e1, e2⟩ | ⟨e1, e2⟩
      · have HN := Lib.hid (mask_no (t := t) hlt (by rw [e1]; rfl))
        go_wp2_with fail
        exact ⟨⟨k + 1, by omega, by go_num, by rw [HN.out], by have hbw := HB.out; (repeat' (first | (with_reducible exact Below.refl _ _) | (with_reducible assumption) | (with_reducible refine Below.al ?_ _) | (with_reducible refine Below.drew ?_) | (with_reducible refine Below.drN ?_ _) | (with_reducible refine Below.via (by with_reducible assumption) ?_) | (with_reducible refine Below.setc ?_ ?_ _) | (with_reducible exact Nat.le_refl _) | (simp; done) | (simp; omega)))⟩, by simp [intOf]; omega⟩
      · have HN := Lib.hid (mask_no (t := t) hlt (by rw [e1, e2]; rfl))
        go_wp2_with fail
        exact ⟨⟨k + 1, by omega, by go_num, by rw [HN.out], by have hbw := HB.out; (repeat' (first | (with_reducible exact Below.refl _ _) | (with_reducible assumption) | (with_reducible refine Below.al ?_ _) | (with_reducible refine Below.drew ?_) | (with_reducible refine Below.drN ?_ _) | (with_reducible refine Below.via (by with_reducible assumption) ?_) | (with_reducible refine Below.setc ?_ ?_ _) | (with_reducible exact Nat.le_refl _) | (simp; done) | (simp; omega)))⟩, by simp [intOf]; omega⟩
      · rcases valid_item3 HV.out hlt with hi | hi | hi
        · have HN := Lib.hid (show maskAt l (k + 1) t = bits .or .i64 (maskAt l k t) 1 by rw [mask_hit hlt (by rw [e1, e2]; rfl) true false false (by rw [hi]; rfl) (by rw [hi]; rfl) (by rw [hi]; rfl)]; unfold maskAt; rw [or_mask0]; simp)
          rw [hi] at h2
          go_wp2_with fail
          exact ⟨⟨k + 1, by omega, by go_num, by rw [HN.out], by have hbw := HB.out; (repeat' (first | (with_reducible exact Below.refl _ _) | (with_reducible assumption) | (with_reducible refine Below.al ?_ _) | (with_reducible refine Below.drew ?_) | (with_reducible refine Below.drN ?_ _) | (with_reducible refine Below.via (by with_reducible assumption) ?_) | (with_reducible refine Below.setc ?_ ?_ _) | (with_reducible exact Nat.le_refl _) | (simp; done) | (simp; omega)))⟩, by simp [intOf]; omega⟩
        · have HN := Lib.hid (show maskAt l (k + 1) t = bits .or .i64 (maskAt l k t) 2 by rw [mask_hit hlt (by rw [e1, e2]; rfl) false true false (by rw [hi]; rfl) (by rw [hi]; rfl) (by rw [hi]; rfl)]; unfold maskAt; rw [or_mask1]; simp)
          rw [hi] at h2
          go_wp2_with fail
          exact ⟨⟨k + 1, by omega, by go_num, by rw [HN.out], by have hbw := HB.out; (repeat' (first | (with_reducible exact Below.refl _ _) | (with_reducible assumption) | (with_reducible refine Below.al ?_ _) | (with_reducible refine Below.drew ?_) | (with_reducible refine Below.drN ?_ _) | (with_reducible refine Below.via (by with_reducible assumption) ?_) | (with_reducible refine Below.setc ?_ ?_ _) | (with_reducible exact Nat.le_refl _) | (simp; done) | (simp; omega)))⟩, by simp [intOf]; omega⟩
        · have HN := Lib.hid (show maskAt l (k + 1) t = bits .or .i64 (maskAt l k t) 4 by rw [mask_hit hlt (by rw [e1, e2]; rfl) false false true (by rw [hi]; rfl) (by rw [hi]; rfl) (by rw [hi]; rfl)]; unfold maskAt; rw [or_mask2]; simp)
          rw [hi] at h2
          go_wp2_with fail
          exact ⟨⟨k + 1, by omega, by go_num, by rw [HN.out], by have hbw := HB.out; (repeat' (first | (with_reducible exact Below.refl _ _) | (with_reducible assumption) | (with_reducible refine Below.al ?_ _) | (with_reducible refine Below.drew ?_) | (with_reducible refine Below.drN ?_ _) | (with_reducible refine Below.via (by with_reducible assumption) ?_) | (with_reducible refine Below.setc ?_ ?_ _) | (with_reducible exact Nat.le_refl _) | (simp; done) | (simp; omega)))⟩, by simp [intOf]; omega⟩
    · have hk' : k = l.length := by omega
      subst hk'
      go_wp2
      go_ret
      exact ⟨rfl, HB.out⟩
/-! ### A test on numbers that is handed over -/
structure TestI (P : Program) (F : FuncId) (caps : Array Value) (w : World) (p : Int → Bool) (l : List Int) : Prop where
  go : ∀ args w, (callFunc F args).run P w = .ok (.enter F args) w
  test : ∀ o ∈ l, ∀ w1, Below w.heap.size w w1 → Calls P F (#[.int .i64 o] ++ caps) w1 fun e w' => e = .returned (.bool (p o)) ∧ Below w1.heap.size w1 w'
set_option maxHeartbeats 400000 in
theorem IndexFunc_list_any (A : Option Addr) (c : Nat) (l : List Int) (F : FuncId) (caps : Array Value) (p : Int → Bool) (w : World) (hl : l.length ≤ maxLen) (hR : RdI w w.heap.size A l) (hF : TestI Try.prog F caps w p l) :
    Calls Try.prog 81 #[.slice A l.length c, .func (.func F) #[] caps] w fun e w' => e = .returned (.int .i64 (idxB p l)) ∧ Below w.heap.size w w' := by
  unfold maxLen at hl
  have hgo := hF.go
  go_enter Try.func81, Try.ntmps81
  go_wp2_with fail
  go_loopw [8] (fun i wr => ∃ k : Nat, k ≤ l.length ∧ i = .int .i64 k ∧ (l.take k).findIdx? p = none ∧ Below w.heap.size w wr) (fun i _ => l.length - (intOf i).toNat)
  case atStart => exact ⟨0, Nat.zero_le _, rfl, rfl, Below.refl _ _⟩
  case round =>
    obtain ⟨k, hk, rfl, hall, hbw⟩ := hrel
    have HA := Lib.hid hall; clear hall
    by_cases hlt : k < l.length
    · obtain ⟨b, off, rfl, hb, h0⟩ := (hR.on hbw).at_ hlt
      have hc := hF.test l[k] (List.getElem_mem hlt) _ hbw
      have HC := Lib.hid hc; clear hc
      go_wp2_with (refine (HC.out).mono ?_; rintro e w1 ⟨rfl, hb1⟩)
      all_goals first
        | (go_ret; exact ⟨ret_int (idx_hit hlt HA.out (by assumption)), by (repeat' (first | (with_reducible exact Below.refl _ _) | (with_reducible assumption) | (with_reducible refine Below.al ?_ _) | (with_reducible refine Below.drew ?_) | (with_reducible refine Below.drN ?_ _) | (with_reducible refine Below.via (by with_reducible assumption) ?_) | (with_reducible refine Below.setc ?_ ?_ _) | (with_reducible exact Nat.le_refl _) | (simp; done) | (simp; omega)))⟩)
        | (exact ⟨⟨k + 1, by omega, by go_num, idx_on hlt HA.out (by assumption), by (repeat' (first | (with_reducible exact Below.refl _ _) | (with_reducible assumption) | (with_reducible refine Below.al ?_ _) | (with_reducible refine Below.drew ?_) | (with_reducible refine Below.drN ?_ _) | (with_reducible refine Below.via (by with_reducible assumption) ?_) | (with_reducible refine Below.setc ?_ ?_ _) | (with_reducible exact Nat.le_refl _) | (simp; done) | (simp; omega)))⟩, by simp [intOf]; omega⟩)
    · have hk' : k = l.length := by omega
      have HK := Lib.hid hk'; clear hk'
      go_wp2
      go_ret
      exact ⟨ret_int (idx_none (by have h := HA.out; rwa [HK.out, List.take_length] at h)), by (repeat' (first | (with_reducible exact Below.refl _ _) | (with_reducible assumption) | (with_reducible refine Below.al ?_ _) | (with_reducible refine Below.drew ?_) | (with_reducible refine Below.drN ?_ _) | (with_reducible refine Below.via (by with_reducible assumption) ?_) | (with_reducible refine Below.setc ?_ ?_ _) | (with_reducible exact Nat.le_refl _) | (simp; done) | (simp; omega)))⟩
set_option maxHeartbeats 400000 in
theorem ContainsFunc_list_any (A : Option Addr) (c : Nat) (l : List Int) (F : FuncId) (caps : Array Value) (p : Int → Bool) (w : World) (hl : l.length ≤ maxLen) (hR : RdI w w.heap.size A l) (hF : TestI Try.prog F caps w p l) :
    Calls Try.prog 54 #[.slice A l.length c, .func (.func F) #[] caps] w fun e w' => e = .returned (.bool (l.any p)) ∧ Below w.heap.size w w' := by
  have HF := Lib.hid hF; clear hF
  go_enter Try.func54, Try.ntmps54
  go_wp2_with (go_at_call 81; refine (IndexFunc_list_any _ _ _ _ _ p _ hl hR HF.out).mono ?_; rintro e w1 ⟨rfl, hb1⟩)
  go_ret
  exact ⟨ret_bool (idx_any p l), by (repeat' (first | (with_reducible exact Below.refl _ _) | (with_reducible assumption) | (with_reducible refine Below.al ?_ _) | (with_reducible refine Below.drew ?_) | (with_reducible refine Below.drN ?_ _) | (with_reducible refine Below.via (by with_reducible assumption) ?_) | (with_reducible refine Below.setc ?_ ?_ _) | (with_reducible exact Nat.le_refl _) | (simp; done) | (simp; omega)))⟩
end Go.Proofs.Ytafjlklcffbbfaa
