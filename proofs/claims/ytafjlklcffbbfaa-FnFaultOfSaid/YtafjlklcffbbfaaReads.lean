/- From whom a read reads: contracts of the functions behind ReadsOf, the reference's and the program's. -/
import Derived.Test.YtafjlklcffbbfaaTxs
namespace Go.Proofs.Ytafjlklcffbbfaa
set_option linter.unusedSimpArgs false
set_option linter.unusedVariables false
open Go.RowKit

/-! ### The plain side -/
/-- The transaction of the last of the first k operations that a test takes, or -1. -/
def srcAt (g : O3 → Bool) (l : List O3) : Nat → Int
  | 0 => -1
  | k + 1 => if h : k < l.length then (if g l[k] then l[k].tx else srcAt g l k) else srcAt g l k
theorem srcAt_yes {g : O3 → Bool} {l : List O3} {k : Nat} (hk : k < l.length) (h : g l[k] = true) : srcAt g l (k + 1) = l[k].tx := by simp [srcAt, hk, h]
theorem srcAt_no {g : O3 → Bool} {l : List O3} {k : Nat} (hk : k < l.length) (h : g l[k] = false) : srcAt g l (k + 1) = srcAt g l k := by simp [srcAt, hk, h]
theorem srcAt_congr {g g' : O3 → Bool} (h : ∀ o, g o = g' o) (l : List O3) (k : Nat) : srcAt g l k = srcAt g' l k := by
  have : g = g' := funext h
  rw [this]
def abB (l : List O3) (i : Nat) (t : Int) : Bool := (l.take i).any fun o => o.tx == t && o.kind == 3
theorem abB_iff {l : List O3} {i : Nat} {t : Int} : abB l i t = true ↔ ∃ j, ∃ h : j < l.length, j < i ∧ l[j].tx = t ∧ l[j].kind = 3 := by
  unfold abB
  rw [List.any_eq_true]
  constructor
  · rintro ⟨o, ho, h⟩
    obtain ⟨j, hj, hji, rfl⟩ := take_mem.1 ho
    simp at h
    exact ⟨j, hj, hji, h.1, h.2⟩
  · rintro ⟨j, hj, hji, h1, h2⟩
    exact ⟨l[j], take_mem.2 ⟨j, hj, hji, rfl⟩, by simp [h1, h2]⟩
theorem abB_end {l : List O3} (hv : ValidP l) (i : Nat) (t : Int) : abB l i t = (endL (l.take i) t == 3) := by
  rcases endL_cases (l.take i) t with ⟨h, hn⟩ | ⟨o, ho, ht, he, hk, h⟩
  · rw [h, Bool.eq_iff_iff, abB_iff]
    constructor
    · rintro ⟨j, hj, hji, h1, h2⟩
      have := hn l[j] (take_mem.2 ⟨j, hj, hji, rfl⟩) h1
      simp [endB, h2] at this
    · intro h; simp at h
  · rw [Bool.eq_iff_iff, abB_iff]
    obtain ⟨j, hj, hji, rfl⟩ := take_mem.1 ho
    constructor
    · rintro ⟨j', hj', hji', h1, h2⟩
      have h3 : endB l[j'] = true := by simp [endB, h2]
      rcases Nat.lt_trichotomy j j' with h4 | h4 | h4
      · exact absurd ⟨ht.trans h1.symm, he⟩ ((hv.2 j' hj').2.2 j hj h4)
      · subst h4
        rw [hk]; simp [h2]
      · exact absurd ⟨h1.trans ht.symm, h3⟩ ((hv.2 j hj).2.2 j' hj' h4)
    · intro h5
      refine ⟨j, hj, hji, ht, ?_⟩
      rw [hk] at h5
      simpa using h5
def itemAt (l : List O3) (i : Nat) : Int := if h : i < l.length then l[i].item else 0
theorem itemAt_eq {l : List O3} {i : Nat} (h : i < l.length) : itemAt l i = l[i].item := by simp [itemAt, h]
def srcI (l : List O3) (i : Nat) : Int := srcAt (fun o => o.kind == 1 && (o.item == itemAt l i && !(endL (l.take i) o.tx == 3))) l i
def srcS (l : List O3) (i : Nat) : Int := srcAt (fun o => o.kind == 1 && (o.item == itemAt l i && !abB l i o.tx)) l i
theorem srcS_eq {l : List O3} (hv : ValidP l) (i : Nat) : srcS l i = srcI l i := srcAt_congr (fun o => by rw [abB_end hv]) l i
/-- What a function says of each of the first k operations that read. -/
def readsTo (F : Nat → Int) (l : List O3) : Nat → List Int
  | 0 => []
  | k + 1 => if h : k < l.length then (if l[k].kind == 0 then readsTo F l k ++ [F k] else readsTo F l k) else readsTo F l k
theorem readsTo_yes {F : Nat → Int} {l : List O3} {k : Nat} (hk : k < l.length) (h : (l[k].kind == 0) = true) : readsTo F l (k + 1) = readsTo F l k ++ [F k] := by
  rw [readsTo, dif_pos hk, if_pos h]
theorem readsTo_no {F : Nat → Int} {l : List O3} {k : Nat} (hk : k < l.length) (h : (l[k].kind == 0) = false) : readsTo F l (k + 1) = readsTo F l k := by
  rw [readsTo, dif_pos hk, if_neg (by simp [h])]
theorem readsTo_le (F : Nat → Int) (l : List O3) (k : Nat) : (readsTo F l k).length ≤ k := by
  induction k with
  | zero => simp [readsTo]
  | succ k ih => unfold readsTo; split <;> (try split) <;> (try simp) <;> omega
/-- ReadsOf's value. -/
noncomputable def readsV (l : List O3) : List Int := if tt (ValidP l) = true then readsTo (srcI l) l l.length else []
theorem readsV_len (l : List O3) (hl : l.length ≤ 1048576) : (readsV l).length ≤ 1048576 := by
  unfold readsV; split
  · have := readsTo_le (srcI l) l l.length; omega
  · simp
theorem readsS_same {l : List O3} (hv : ValidP l) : readsTo (srcS l) l l.length = readsTo (srcI l) l l.length := by
  have : srcS l = srcI l := funext (srcS_eq hv)
  rw [this]

/-! ### The walks -/
set_option maxHeartbeats 400000 in
theorem spec_abortedAt_any (A : Option Addr) (c : Nat) (l : List O3) (t : Int) (i : Nat) (w : World) (hi : i ≤ l.length) (hl : l.length ≤ maxLen) (hR : RdO w w.heap.size A l) :
    Calls Try.prog 83 #[.slice A l.length c, .int .i64 t, .int .i64 i] w fun e w' => e = .returned (.bool (abB l i t)) ∧ w = w' := by
  unfold maxLen at hl
  go_enter Try.func83, Try.ntmps83
  go_wp2_with fail
  go_loop [7] (fun v => ∃ k : Nat, k ≤ i ∧ v = .int .i64 k ∧ (∀ j (h : j < l.length), j < k → ¬ (l[j].tx = t ∧ l[j].kind = 3))) (fun v => i - (intOf v).toNat)
  case atStart => exact ⟨0, Nat.zero_le _, rfl, fun j h hj => by omega⟩
  case round =>
    obtain ⟨k, hk, rfl, hall⟩ := hrel
    have HA := Lib.hid hall; clear hall
    by_cases hlt : k < i
    · have hkl : k < l.length := by omega
      obtain ⟨b, off, rfl, hb, h0, h1, h2⟩ := hR.at_ hkl
      rcases and2 (l[k].tx == t) (l[k].kind == 3) with e1 | ⟨e1, e2⟩ | ⟨e1, e2⟩
      · go_wp2
        exact ⟨⟨k + 1, by omega, by go_num, fun j h hj => by
          by_cases e : j = k
          · subst e; rintro ⟨g1, g2⟩; simp [g1] at e1
          · exact HA.out j h (by omega)⟩, by simp [intOf]; omega⟩
      · go_wp2
        exact ⟨⟨k + 1, by omega, by go_num, fun j h hj => by
          by_cases e : j = k
          · subst e; rintro ⟨g1, g2⟩; simp [g2] at e2
          · exact HA.out j h (by omega)⟩, by simp [intOf]; omega⟩
      · go_wp2
        go_ret
        exact ⟨ret_bool (abB_iff.2 ⟨k, hkl, hlt, by simpa using e1, by simpa using e2⟩).symm, rfl⟩
    · have hk' : k = i := by omega
      subst hk'
      go_wp2
      go_ret
      refine ⟨ret_bool ?_, rfl⟩
      symm
      rw [Bool.eq_false_iff]
      intro h
      obtain ⟨j, hj, hjk, h1, h2⟩ := abB_iff.1 h
      exact HA.out j hj hjk ⟨h1, h2⟩
set_option maxHeartbeats 1000000 in
theorem spec_source_any (A : Option Addr) (c : Nat) (l : List O3) (i : Nat) (w : World) (hi : i < l.length) (hl : l.length ≤ maxLen) (hR : RdO w w.heap.size A l) :
    Calls Try.prog 59 #[.slice A l.length c, .int .i64 i] w fun e w' => e = .returned (.int .i64 (srcS l i)) ∧ Below w.heap.size w w' := by
  have HM := Lib.hid hl
  unfold maxLen at hl
  go_enter Try.func59, Try.ntmps59
  go_wp2_with fail
  go_loopw [5] (fun v wr => ∃ k : Nat, k ≤ i ∧ v = .int .i64 ((k : Int) - 1) ∧ srcAt (fun o => o.kind == 1 && (o.item == itemAt l i && !abB l i o.tx)) l i = srcAt (fun o => o.kind == 1 && (o.item == itemAt l i && !abB l i o.tx)) l k ∧ Below w.heap.size w wr) (fun v _ => (intOf v + 1).toNat)
  case atStart => exact ⟨i, Nat.le_refl _, by go_num, rfl, Below.refl _ _⟩
  case round =>
    obtain ⟨k', hk', rfl, hall, hbw⟩ := hrel
    have HA := Lib.hid hall; clear hall
    have HB := Lib.hid hbw; clear hbw
    cases k' with
    | zero =>
      go_wp2
      go_ret
      exact ⟨ret_int (by rw [srcS, HA.out]; rfl), HB.out⟩
    | succ k =>
      have e0 : (((k + 1 : Nat) : Int) - 1) = (k : Int) := by omega
      rw [e0]
      clear e0
      have hkl : k < l.length := by omega
      have hRr := hR.on HB.out
      obtain ⟨b, off, rfl, hb, h0, h1, h2⟩ := hRr.at_ hkl
      obtain ⟨b', off', e', hb', h0', h1', h2'⟩ := hRr.at_ hi
      simp only [Option.some.injEq, Addr.mk.injEq, and_true] at e'
      obtain ⟨rfl, rfl⟩ := e'
      have HR := Lib.hid hRr; clear hRr
      have hix := itemAt_eq hi
      rcases and3 (l[k].kind == 1) (l[k].item == l[i].item) (abB l i l[k].tx) with e1 | ⟨e1, e2⟩ | ⟨e1, e2, e3⟩ | ⟨e1, e2, e3⟩
      · have hs : srcAt (fun o => o.kind == 1 && (o.item == itemAt l i && !abB l i o.tx)) l (k + 1) = srcAt (fun o => o.kind == 1 && (o.item == itemAt l i && !abB l i o.tx)) l k := srcAt_no hkl (by rw [hix]; simp [*])
        have HS := Lib.hid hs; clear hs hix
        go_wp2_with fail
        ((first | (with_reducible refine wp_region_from (by with_reducible assumption) follows (by kernel_rfl) ?_) | (refine wp_region_aft follows (by kernel_rfl) ?_)); (repeat (go_big_quiet_step (fail))); refine wpQuiet_nil ?_; intro _ hw'; obtain ⟨⟨w1, hb⟩, rfl⟩ := hw'; (try dsimp only); first | (replace hb := Below.via hb (by with_reducible assumption); (try clear hbc hbf hbz); obtain ⟨hbc, hbf, hbz⟩ := bcell hb) | (obtain ⟨hbc, hbf, hbz⟩ := bcell hb))
        go_wp2
        exact ⟨⟨k, by omega, by go_num, HA.out.trans (HS.out), by have hbw := HB.out; (repeat' (first | (with_reducible exact Below.refl _ _) | (with_reducible assumption) | (with_reducible refine Below.al ?_ _) | (with_reducible refine Below.drew ?_) | (with_reducible refine Below.drN ?_ _) | (with_reducible refine Below.via (by with_reducible assumption) ?_) | (with_reducible refine Below.setc ?_ ?_ _) | (with_reducible exact Nat.le_refl _) | (simp; done) | (simp; omega)))⟩, by simp [intOf]⟩
      · have hs : srcAt (fun o => o.kind == 1 && (o.item == itemAt l i && !abB l i o.tx)) l (k + 1) = srcAt (fun o => o.kind == 1 && (o.item == itemAt l i && !abB l i o.tx)) l k := srcAt_no hkl (by rw [hix]; simp [*])
        have HS := Lib.hid hs; clear hs hix
        go_wp2_with fail
        ((first | (with_reducible refine wp_region_from (by with_reducible assumption) follows (by kernel_rfl) ?_) | (refine wp_region_aft follows (by kernel_rfl) ?_)); (repeat (go_big_quiet_step (fail))); refine wpQuiet_nil ?_; intro _ hw'; obtain ⟨⟨w1, hb⟩, rfl⟩ := hw'; (try dsimp only); first | (replace hb := Below.via hb (by with_reducible assumption); (try clear hbc hbf hbz); obtain ⟨hbc, hbf, hbz⟩ := bcell hb) | (obtain ⟨hbc, hbf, hbz⟩ := bcell hb))
        go_wp2
        exact ⟨⟨k, by omega, by go_num, HA.out.trans (HS.out), by have hbw := HB.out; (repeat' (first | (with_reducible exact Below.refl _ _) | (with_reducible assumption) | (with_reducible refine Below.al ?_ _) | (with_reducible refine Below.drew ?_) | (with_reducible refine Below.drN ?_ _) | (with_reducible refine Below.via (by with_reducible assumption) ?_) | (with_reducible refine Below.setc ?_ ?_ _) | (with_reducible exact Nat.le_refl _) | (simp; done) | (simp; omega)))⟩, by simp [intOf]⟩
      · have hs : srcAt (fun o => o.kind == 1 && (o.item == itemAt l i && !abB l i o.tx)) l (k + 1) = l[k].tx := srcAt_yes hkl (by rw [hix]; simp [*])
        have HS := Lib.hid hs; clear hs hix
        have E3 := Lib.hid e3; clear e3
        go_wp2_with fail
        ((first | (with_reducible refine wp_region_from (by with_reducible assumption) follows (by kernel_rfl) ?_) | (refine wp_region_aft follows (by kernel_rfl) ?_)); (repeat (go_big_quiet_step ((go_at_call 83; exact aftb_same (spec_abortedAt_any _ _ l _ i _ (Nat.le_of_lt hi) HM.out (HR.out.on (After.below _))) (E3.out))))); refine wpQuiet_nil ?_; intro _ hw'; obtain ⟨⟨w1, hb⟩, rfl⟩ := hw'; (try dsimp only); first | (replace hb := Below.via hb (by with_reducible assumption); (try clear hbc hbf hbz); obtain ⟨hbc, hbf, hbz⟩ := bcell hb) | (obtain ⟨hbc, hbf, hbz⟩ := bcell hb))
        go_wp2
        go_ret
        exact ⟨ret_int (by rw [srcS, HA.out, HS.out]), by have hbw := HB.out; (repeat' (first | (with_reducible exact Below.refl _ _) | (with_reducible assumption) | (with_reducible refine Below.al ?_ _) | (with_reducible refine Below.drew ?_) | (with_reducible refine Below.drN ?_ _) | (with_reducible refine Below.via (by with_reducible assumption) ?_) | (with_reducible refine Below.setc ?_ ?_ _) | (with_reducible exact Nat.le_refl _) | (simp; done) | (simp; omega)))⟩
      · have hs : srcAt (fun o => o.kind == 1 && (o.item == itemAt l i && !abB l i o.tx)) l (k + 1) = srcAt (fun o => o.kind == 1 && (o.item == itemAt l i && !abB l i o.tx)) l k := srcAt_no hkl (by rw [hix]; simp [*])
        have HS := Lib.hid hs; clear hs hix
        have E3 := Lib.hid e3; clear e3
        go_wp2_with fail
        ((first | (with_reducible refine wp_region_from (by with_reducible assumption) follows (by kernel_rfl) ?_) | (refine wp_region_aft follows (by kernel_rfl) ?_)); (repeat (go_big_quiet_step ((go_at_call 83; exact aftb_same (spec_abortedAt_any _ _ l _ i _ (Nat.le_of_lt hi) HM.out (HR.out.on (After.below _))) (E3.out))))); refine wpQuiet_nil ?_; intro _ hw'; obtain ⟨⟨w1, hb⟩, rfl⟩ := hw'; (try dsimp only); first | (replace hb := Below.via hb (by with_reducible assumption); (try clear hbc hbf hbz); obtain ⟨hbc, hbf, hbz⟩ := bcell hb) | (obtain ⟨hbc, hbf, hbz⟩ := bcell hb))
        go_wp2
        exact ⟨⟨k, by omega, by go_num, HA.out.trans (HS.out), by have hbw := HB.out; (repeat' (first | (with_reducible exact Below.refl _ _) | (with_reducible assumption) | (with_reducible refine Below.al ?_ _) | (with_reducible refine Below.drew ?_) | (with_reducible refine Below.drN ?_ _) | (with_reducible refine Below.via (by with_reducible assumption) ?_) | (with_reducible refine Below.setc ?_ ?_ _) | (with_reducible exact Nat.le_refl _) | (simp; done) | (simp; omega)))⟩, by simp [intOf]⟩
set_option maxHeartbeats 1000000 in
theorem impl_readFrom_any (A : Option Addr) (c : Nat) (l : List O3) (i : Nat) (w : World) (hi : i < l.length) (hl : l.length ≤ maxLen) (hc : l.length ≤ c) (hR : RdO w w.heap.size A l) :
    Calls Try.prog 84 #[.slice A l.length c, .int .i64 i] w fun e w' => e = .returned (.int .i64 (srcI l i)) ∧ Below w.heap.size w w' := by
  have HM := Lib.hid hl
  unfold maxLen at hl
  go_enter Try.func84, Try.ntmps84
  go_wp2_with fail
  go_loopw [5] (fun v wr => ∃ k : Nat, k ≤ i ∧ v = .int .i64 ((k : Int) - 1) ∧ srcAt (fun o => o.kind == 1 && (o.item == itemAt l i && !(endL (l.take i) o.tx == 3))) l i = srcAt (fun o => o.kind == 1 && (o.item == itemAt l i && !(endL (l.take i) o.tx == 3))) l k ∧ Below w.heap.size w wr) (fun v _ => (intOf v + 1).toNat)
  case atStart => exact ⟨i, Nat.le_refl _, by go_num, rfl, Below.refl _ _⟩
  case round =>
    obtain ⟨k', hk', rfl, hall, hbw⟩ := hrel
    have HA := Lib.hid hall; clear hall
    have HB := Lib.hid hbw; clear hbw
    cases k' with
    | zero =>
      go_wp2
      go_ret
      exact ⟨ret_int (by rw [srcI, HA.out]; rfl), HB.out⟩
    | succ k =>
      have e0 : (((k + 1 : Nat) : Int) - 1) = (k : Int) := by omega
      rw [e0]
      clear e0
      have hkl : k < l.length := by omega
      have hRr := hR.on HB.out
      obtain ⟨b, off, rfl, hb, h0, h1, h2⟩ := hRr.at_ hkl
      obtain ⟨b', off', e', hb', h0', h1', h2'⟩ := hRr.at_ hi
      simp only [Option.some.injEq, Addr.mk.injEq, and_true] at e'
      obtain ⟨rfl, rfl⟩ := e'
      have HR := Lib.hid hRr; clear hRr
      have hic : i ≤ c := by omega
      have hix := itemAt_eq hi
      rcases and3 (l[k].kind == 1) (l[k].item == l[i].item) (endL (l.take i) l[k].tx == 3) with e1 | ⟨e1, e2⟩ | ⟨e1, e2, e3⟩ | ⟨e1, e2, e3⟩
      · have hs : srcAt (fun o => o.kind == 1 && (o.item == itemAt l i && !(endL (l.take i) o.tx == 3))) l (k + 1) = srcAt (fun o => o.kind == 1 && (o.item == itemAt l i && !(endL (l.take i) o.tx == 3))) l k := srcAt_no hkl (by rw [hix]; simp [*])
        have HS := Lib.hid hs; clear hs hix
        go_wp2_with fail
        ((first | (with_reducible refine wp_region_from (by with_reducible assumption) follows (by kernel_rfl) ?_) | (refine wp_region_aft follows (by kernel_rfl) ?_)); (repeat (go_big_quiet_step (fail))); refine wpQuiet_nil ?_; intro _ hw'; obtain ⟨⟨w1, hb⟩, rfl⟩ := hw'; (try dsimp only); first | (replace hb := Below.via hb (by with_reducible assumption); (try clear hbc hbf hbz); obtain ⟨hbc, hbf, hbz⟩ := bcell hb) | (obtain ⟨hbc, hbf, hbz⟩ := bcell hb))
        go_wp2
        exact ⟨⟨k, by omega, by go_num, HA.out.trans (HS.out), by have hbw := HB.out; (repeat' (first | (with_reducible exact Below.refl _ _) | (with_reducible assumption) | (with_reducible refine Below.al ?_ _) | (with_reducible refine Below.drew ?_) | (with_reducible refine Below.drN ?_ _) | (with_reducible refine Below.via (by with_reducible assumption) ?_) | (with_reducible refine Below.setc ?_ ?_ _) | (with_reducible exact Nat.le_refl _) | (simp; done) | (simp; omega)))⟩, by simp [intOf]⟩
      · have hs : srcAt (fun o => o.kind == 1 && (o.item == itemAt l i && !(endL (l.take i) o.tx == 3))) l (k + 1) = srcAt (fun o => o.kind == 1 && (o.item == itemAt l i && !(endL (l.take i) o.tx == 3))) l k := srcAt_no hkl (by rw [hix]; simp [*])
        have HS := Lib.hid hs; clear hs hix
        go_wp2_with fail
        ((first | (with_reducible refine wp_region_from (by with_reducible assumption) follows (by kernel_rfl) ?_) | (refine wp_region_aft follows (by kernel_rfl) ?_)); (repeat (go_big_quiet_step (fail))); refine wpQuiet_nil ?_; intro _ hw'; obtain ⟨⟨w1, hb⟩, rfl⟩ := hw'; (try dsimp only); first | (replace hb := Below.via hb (by with_reducible assumption); (try clear hbc hbf hbz); obtain ⟨hbc, hbf, hbz⟩ := bcell hb) | (obtain ⟨hbc, hbf, hbz⟩ := bcell hb))
        go_wp2
        exact ⟨⟨k, by omega, by go_num, HA.out.trans (HS.out), by have hbw := HB.out; (repeat' (first | (with_reducible exact Below.refl _ _) | (with_reducible assumption) | (with_reducible refine Below.al ?_ _) | (with_reducible refine Below.drew ?_) | (with_reducible refine Below.drN ?_ _) | (with_reducible refine Below.via (by with_reducible assumption) ?_) | (with_reducible refine Below.setc ?_ ?_ _) | (with_reducible exact Nat.le_refl _) | (simp; done) | (simp; omega)))⟩, by simp [intOf]⟩
      · have hs : srcAt (fun o => o.kind == 1 && (o.item == itemAt l i && !(endL (l.take i) o.tx == 3))) l (k + 1) = l[k].tx := srcAt_yes hkl (by rw [hix]; simp [*])
        have HS := Lib.hid hs; clear hs hix
        go_wp2_with fail
        ((first | (with_reducible refine wp_region_from (by with_reducible assumption) follows (by kernel_rfl) ?_) | (refine wp_region_aft follows (by kernel_rfl) ?_)); (repeat (go_big_quiet_step ((go_at_call 49; exact aft (impl_endOf_take _ _ l i _ _ HM.out (HR.out.on (After.below _)) (Nat.le_of_lt hi)))))); refine wpQuiet_nil ?_; intro _ hw'; obtain ⟨⟨w1, hb⟩, rfl⟩ := hw'; (try dsimp only); first | (replace hb := Below.via hb (by with_reducible assumption); (try clear hbc hbf hbz); obtain ⟨hbc, hbf, hbz⟩ := bcell hb) | (obtain ⟨hbc, hbf, hbz⟩ := bcell hb))
        go_wp2
        go_ret
        exact ⟨ret_int (by rw [srcI, HA.out, HS.out]), by have hbw := HB.out; (repeat' (first | (with_reducible exact Below.refl _ _) | (with_reducible assumption) | (with_reducible refine Below.al ?_ _) | (with_reducible refine Below.drew ?_) | (with_reducible refine Below.drN ?_ _) | (with_reducible refine Below.via (by with_reducible assumption) ?_) | (with_reducible refine Below.setc ?_ ?_ _) | (with_reducible exact Nat.le_refl _) | (simp; done) | (simp; omega)))⟩
      · have hs : srcAt (fun o => o.kind == 1 && (o.item == itemAt l i && !(endL (l.take i) o.tx == 3))) l (k + 1) = srcAt (fun o => o.kind == 1 && (o.item == itemAt l i && !(endL (l.take i) o.tx == 3))) l k := srcAt_no hkl (by rw [hix]; simp [*])
        have HS := Lib.hid hs; clear hs hix
        go_wp2_with fail
        ((first | (with_reducible refine wp_region_from (by with_reducible assumption) follows (by kernel_rfl) ?_) | (refine wp_region_aft follows (by kernel_rfl) ?_)); (repeat (go_big_quiet_step ((go_at_call 49; exact aft (impl_endOf_take _ _ l i _ _ HM.out (HR.out.on (After.below _)) (Nat.le_of_lt hi)))))); refine wpQuiet_nil ?_; intro _ hw'; obtain ⟨⟨w1, hb⟩, rfl⟩ := hw'; (try dsimp only); first | (replace hb := Below.via hb (by with_reducible assumption); (try clear hbc hbf hbz); obtain ⟨hbc, hbf, hbz⟩ := bcell hb) | (obtain ⟨hbc, hbf, hbz⟩ := bcell hb))
        go_wp2
        exact ⟨⟨k, by omega, by go_num, HA.out.trans (HS.out), by have hbw := HB.out; (repeat' (first | (with_reducible exact Below.refl _ _) | (with_reducible assumption) | (with_reducible refine Below.al ?_ _) | (with_reducible refine Below.drew ?_) | (with_reducible refine Below.drN ?_ _) | (with_reducible refine Below.via (by with_reducible assumption) ?_) | (with_reducible refine Below.setc ?_ ?_ _) | (with_reducible exact Nat.le_refl _) | (simp; done) | (simp; omega)))⟩, by simp [intOf]⟩
end Go.Proofs.Ytafjlklcffbbfaa
