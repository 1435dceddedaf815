/- Which steps are illegal: the plain side and the contracts of IllegalAt, the reference's and the program's. -/
import Derived.Test.YtajmhgekmjhoaaaHeld
import Derived.Test.YtajmhgekmjhoaaaFilt
namespace Go.Proofs.Ytajmhgekmjhoaaa
set_option linter.unusedSimpArgs false
set_option linter.unusedVariables false
open Go.RowKit

/-! ### The plain side -/
/-- Of the first k transactions another than tx has at least this lock on the item. -/
def othB (F : Int → Int → Int) (tx item least : Int) : Nat → Bool
  | 0 => false
  | k + 1 => othB F tx item least k || ((k : Int) != tx && decide (least ≤ F k item))
def illB (F : Int → Int → Int) (tx kind item : Int) : Bool :=
  if (kind == 0) = true then decide (0 ≤ F tx item) || othB F tx item 1 4
  else if (kind == 1) = true then F tx item == 1 || othB F tx item 0 4
  else if (kind == 4) = true then F tx item != 1
  else decide (F tx item < 0)
theorem oth_yes {F : Int → Int → Int} {tx item least : Int} {k : Nat} (h1 : ((k : Int) != tx) = true) (h2 : least ≤ F k item) : ∀ n, k < n → othB F tx item least n = true := by
  intro n
  induction n with
  | zero => intro h; omega
  | succ n ih =>
    intro h
    by_cases e : k = n
    · subst e; simp [othB, h1, h2]
    · simp [othB, ih (by omega)]
theorem oth_no1 {F : Int → Int → Int} {tx item least : Int} {k : Nat} (h : othB F tx item least k = false) (h1 : ((k : Int) != tx) = false) : othB F tx item least (k + 1) = false := by simp [othB, h, h1]
theorem oth_no2 {F : Int → Int → Int} {tx item least : Int} {k : Nat} (h : othB F tx item least k = false) (h2 : ¬ least ≤ F k item) : othB F tx item least (k + 1) = false := by simp [othB, h, h2]

/-! ### The walks -/
set_option maxHeartbeats 2000000 in
theorem spec_illegal_any (A : Option Addr) (c : Nat) (l : List O3) (k : Nat) (hk : k < l.length) (hv : l.all stepB = true) (w : World) (hl : l.length ≤ maxLen) (hR : RdO w w.heap.size A l) :
    Calls Try.prog 48 #[.slice A l.length c, .int .i64 k] w fun e w' => e = .returned (.bool (illB (fun t x => heldTo l t x k) l[k].tx l[k].kind l[k].item)) ∧ Below w.heap.size w w' := by
  have HM := Lib.hid hl; clear hl
  obtain ⟨b, off, rfl, hb, h0, h1, h2⟩ := hR.at_ hk
  have HR := Lib.hid (hR.alloc (Nat.le_refl _) (.cells #[.int .i64 l[k].tx, .int .i64 l[k].kind, .int .i64 l[k].item] 53) |>.more (B' := (w.alloc (.cells #[.int .i64 l[k].tx, .int .i64 l[k].kind, .int .i64 l[k].item] 53)).heap.size) (by simp)); clear hR
  have HV := Lib.hid hv; clear hv
  cases e0 : (l[k].kind == 0)
  · cases e1 : (l[k].kind == 1)
    · have hill : illB (fun t x => heldTo l t x k) l[k].tx l[k].kind l[k].item = if (l[k].kind == 4) = true then heldTo l l[k].tx l[k].item k != 1 else decide (heldTo l l[k].tx l[k].item k < 0) := by
        unfold illB; rw [e0, e1]; rfl
      rw [hill]
      clear hill
      cases e4 : (l[k].kind == 4)
      all_goals
        go_enter Try.func48, Try.ntmps48
        go_wp2_with (go_at_call 37; refine (spec_held_any _ _ l k _ _ _ (Nat.le_of_lt hk) HM.out HR.out).mono ?_; rintro e w1 ⟨rfl, rfl⟩)
        go_ret
        exact ⟨rfl, by (repeat' (first | (with_reducible exact Below.refl _ _) | (with_reducible assumption) | (with_reducible refine Below.al ?_ _) | (with_reducible refine Below.drew ?_) | (with_reducible refine Below.drN ?_ _) | (with_reducible refine Below.via (by with_reducible assumption) ?_) | (with_reducible refine Below.setc ?_ ?_ _) | (with_reducible exact Nat.le_refl _) | (simp; done) | (simp; omega)))⟩
    · have hill : illB (fun t x => heldTo l t x k) l[k].tx l[k].kind l[k].item = ((heldTo l l[k].tx l[k].item k == 1) || othB (fun t x => heldTo l t x k) l[k].tx l[k].item 0 4) := by
        unfold illB; rw [e0, e1]; rfl
      rw [hill]
      clear hill
      cases e2 : (heldTo l l[k].tx l[k].item k == 1)
      · go_enter Try.func48, Try.ntmps48
        go_wp2_with (go_at_call 37; refine (spec_held_any _ _ l k _ _ _ (Nat.le_of_lt hk) HM.out HR.out).mono ?_; rintro e w1 ⟨rfl, rfl⟩)
        go_loop [8] (fun v => ∃ n : Nat, n ≤ 4 ∧ v = .int .i64 n ∧ othB (fun t x => heldTo l t x k) l[k].tx l[k].item 0 n = false) (fun v => 4 - (intOf v).toNat)
        case atStart => exact ⟨0, by omega, rfl, rfl⟩
        case round =>
          obtain ⟨n, hn, rfl, hall⟩ := hrel
          have HA := Lib.hid hall; clear hall
          have hvals := held_vals l HV.out n l[k].item k
          by_cases hlt : n < 4
          · have hlt' : (n : Int) < 4 := by omega
            cases e3 : ((n : Int) != l[k].tx)
            · have HS := Lib.hid (oth_no1 HA.out e3)
              go_wp2
              exact ⟨⟨n + 1, by omega, by go_num, HS.out⟩, by simp [intOf]; omega⟩
            · cases e5 : (decide (0 ≤ heldTo l n l[k].item k))
              · have HS := Lib.hid (oth_no2 (item := l[k].item) HA.out (show ¬ 0 ≤ heldTo l n l[k].item k by simp at e5; omega))
                clear hvals
                go_wp2_with (go_at_call 37; refine (spec_held_any _ _ l k _ _ _ (Nat.le_of_lt hk) HM.out HR.out).mono ?_; rintro e w1 ⟨rfl, rfl⟩)
                exact ⟨⟨n + 1, by omega, by go_num, HS.out⟩, by simp [intOf]; omega⟩
              · have HS := Lib.hid (oth_yes (F := fun t x => heldTo l t x k) (item := l[k].item) e3 (show 0 ≤ heldTo l n l[k].item k by simp at e5; omega) 4 hlt)
                clear hvals
                go_wp2_with (go_at_call 37; refine (spec_held_any _ _ l k _ _ _ (Nat.le_of_lt hk) HM.out HR.out).mono ?_; rintro e w1 ⟨rfl, rfl⟩)
                go_ret
                exact ⟨ret_bool (by rw [HS.out]; rfl), by (repeat' (first | (with_reducible exact Below.refl _ _) | (with_reducible assumption) | (with_reducible refine Below.al ?_ _) | (with_reducible refine Below.drew ?_) | (with_reducible refine Below.drN ?_ _) | (with_reducible refine Below.via (by with_reducible assumption) ?_) | (with_reducible refine Below.setc ?_ ?_ _) | (with_reducible exact Nat.le_refl _) | (simp; done) | (simp; omega)))⟩
          · have hn4 : n = 4 := by omega
            have HN := Lib.hid hn4; clear hn4 hvals
            go_wp2
            go_ret
            have h := HA.out
            rw [HN.out] at h
            exact ⟨ret_bool (by rw [h]), by (repeat' (first | (with_reducible exact Below.refl _ _) | (with_reducible assumption) | (with_reducible refine Below.al ?_ _) | (with_reducible refine Below.drew ?_) | (with_reducible refine Below.drN ?_ _) | (with_reducible refine Below.via (by with_reducible assumption) ?_) | (with_reducible refine Below.setc ?_ ?_ _) | (with_reducible exact Nat.le_refl _) | (simp; done) | (simp; omega)))⟩
      · go_enter Try.func48, Try.ntmps48
        go_wp2_with (go_at_call 37; refine (spec_held_any _ _ l k _ _ _ (Nat.le_of_lt hk) HM.out HR.out).mono ?_; rintro e w1 ⟨rfl, rfl⟩)
        go_ret
        exact ⟨ret_bool (by rw [Bool.true_or]), by (repeat' (first | (with_reducible exact Below.refl _ _) | (with_reducible assumption) | (with_reducible refine Below.al ?_ _) | (with_reducible refine Below.drew ?_) | (with_reducible refine Below.drN ?_ _) | (with_reducible refine Below.via (by with_reducible assumption) ?_) | (with_reducible refine Below.setc ?_ ?_ _) | (with_reducible exact Nat.le_refl _) | (simp; done) | (simp; omega)))⟩
  · have hill : illB (fun t x => heldTo l t x k) l[k].tx l[k].kind l[k].item = ((decide (0 ≤ heldTo l l[k].tx l[k].item k)) || othB (fun t x => heldTo l t x k) l[k].tx l[k].item 1 4) := by
      unfold illB; rw [e0]; rfl
    rw [hill]
    clear hill
    cases e2 : (decide (0 ≤ heldTo l l[k].tx l[k].item k))
    · go_enter Try.func48, Try.ntmps48
      go_wp2_with (go_at_call 37; refine (spec_held_any _ _ l k _ _ _ (Nat.le_of_lt hk) HM.out HR.out).mono ?_; rintro e w1 ⟨rfl, rfl⟩)
      go_loop [7] (fun v => ∃ n : Nat, n ≤ 4 ∧ v = .int .i64 n ∧ othB (fun t x => heldTo l t x k) l[k].tx l[k].item 1 n = false) (fun v => 4 - (intOf v).toNat)
      case atStart => exact ⟨0, by omega, rfl, rfl⟩
      case round =>
        obtain ⟨n, hn, rfl, hall⟩ := hrel
        have HA := Lib.hid hall; clear hall
        have hvals := held_vals l HV.out n l[k].item k
        by_cases hlt : n < 4
        · have hlt' : (n : Int) < 4 := by omega
          cases e3 : ((n : Int) != l[k].tx)
          · have HS := Lib.hid (oth_no1 HA.out e3)
            go_wp2
            exact ⟨⟨n + 1, by omega, by go_num, HS.out⟩, by simp [intOf]; omega⟩
          · cases e5 : (heldTo l n l[k].item k == 1)
            · have HS := Lib.hid (oth_no2 (item := l[k].item) HA.out (show ¬ 1 ≤ heldTo l n l[k].item k by simp at e5; omega))
              clear hvals
              go_wp2_with (go_at_call 37; refine (spec_held_any _ _ l k _ _ _ (Nat.le_of_lt hk) HM.out HR.out).mono ?_; rintro e w1 ⟨rfl, rfl⟩)
              exact ⟨⟨n + 1, by omega, by go_num, HS.out⟩, by simp [intOf]; omega⟩
            · have HS := Lib.hid (oth_yes (F := fun t x => heldTo l t x k) (item := l[k].item) e3 (show 1 ≤ heldTo l n l[k].item k by simp at e5; omega) 4 hlt)
              clear hvals
              go_wp2_with (go_at_call 37; refine (spec_held_any _ _ l k _ _ _ (Nat.le_of_lt hk) HM.out HR.out).mono ?_; rintro e w1 ⟨rfl, rfl⟩)
              go_ret
              exact ⟨ret_bool (by rw [HS.out]; rfl), by (repeat' (first | (with_reducible exact Below.refl _ _) | (with_reducible assumption) | (with_reducible refine Below.al ?_ _) | (with_reducible refine Below.drew ?_) | (with_reducible refine Below.drN ?_ _) | (with_reducible refine Below.via (by with_reducible assumption) ?_) | (with_reducible refine Below.setc ?_ ?_ _) | (with_reducible exact Nat.le_refl _) | (simp; done) | (simp; omega)))⟩
        · have hn4 : n = 4 := by omega
          have HN := Lib.hid hn4; clear hn4 hvals
          go_wp2
          go_ret
          have h := HA.out
          rw [HN.out] at h
          exact ⟨ret_bool (by rw [h]), by (repeat' (first | (with_reducible exact Below.refl _ _) | (with_reducible assumption) | (with_reducible refine Below.al ?_ _) | (with_reducible refine Below.drew ?_) | (with_reducible refine Below.drN ?_ _) | (with_reducible refine Below.via (by with_reducible assumption) ?_) | (with_reducible refine Below.setc ?_ ?_ _) | (with_reducible exact Nat.le_refl _) | (simp; done) | (simp; omega)))⟩
    · go_enter Try.func48, Try.ntmps48
      go_wp2_with (go_at_call 37; refine (spec_held_any _ _ l k _ _ _ (Nat.le_of_lt hk) HM.out HR.out).mono ?_; rintro e w1 ⟨rfl, rfl⟩)
      go_ret
      exact ⟨ret_bool (by rw [Bool.true_or]), by (repeat' (first | (with_reducible exact Below.refl _ _) | (with_reducible assumption) | (with_reducible refine Below.al ?_ _) | (with_reducible refine Below.drew ?_) | (with_reducible refine Below.drN ?_ _) | (with_reducible refine Below.via (by with_reducible assumption) ?_) | (with_reducible refine Below.setc ?_ ?_ _) | (with_reducible exact Nat.le_refl _) | (simp; done) | (simp; omega)))⟩
/-- Those transactions themselves. -/
def othL (F : Int → Int → Int) (tx item least : Int) : Nat → List Int
  | 0 => []
  | k + 1 => if ((k : Int) != tx && decide (least ≤ F k item)) = true then othL F tx item least k ++ [(k : Int)] else othL F tx item least k
theorem othL_len (F : Int → Int → Int) (tx item least : Int) (k : Nat) : (othL F tx item least k).length ≤ k := by
  induction k with
  | zero => simp [othL]
  | succ k ih => unfold othL; split <;> (try simp) <;> omega
theorem othL_pos (F : Int → Int → Int) (tx item least : Int) (k : Nat) : decide (0 < ((othL F tx item least k).length : Int)) = othB F tx item least k := by
  induction k with
  | zero => simp [othL, othB]
  | succ k ih =>
    unfold othL othB
    cases h : ((k : Int) != tx && decide (least ≤ F k item))
    · simpa using ih
    · simp
theorem othL_yes {F : Int → Int → Int} {tx item least : Int} {k : Nat} (h1 : ((k : Int) != tx) = true) (h2 : least ≤ F k item) : othL F tx item least (k + 1) = othL F tx item least k ++ [(k : Int)] := by
  rw [othL, if_pos (by simp [h1, h2])]
theorem othL_no1 {F : Int → Int → Int} {tx item least : Int} {k : Nat} (h1 : ((k : Int) != tx) = false) : othL F tx item least (k + 1) = othL F tx item least k := by
  rw [othL, if_neg (by simp [h1])]
theorem othL_no2 {F : Int → Int → Int} {tx item least : Int} {k : Nat} (h2 : ¬ least ≤ F k item) : othL F tx item least (k + 1) = othL F tx item least k := by
  rw [othL, if_neg (by simp [h2])]
set_option maxHeartbeats 1000000 in
theorem impl_others_any (g m : Nat) (tx least : Int) (F : Int → Int → Int) (w : World) (hm : m < 3) (hT : TabAt w g 82 F) :
    Calls Try.prog 67 #[.pointer (some ⟨g, 0, none⟩), .int .i64 tx, .int .i64 m, .int .i64 least] w fun e w' => (∃ A c, e = .returned (.slice A (othL F tx m least 4).length c)) ∧ Below w.heap.size w w' := by
  obtain ⟨i0, hi0, hz0, hz1, hz2⟩ := info_parts info_I
  have hm3 : (m : Int) < 3 := by omega
  have HT := Lib.hid hT; clear hT
  go_enter Try.func67, Try.ntmps67
  go_wp2_with fail
  have hB0 : Below w.heap.size w (w.alloc (Obj.cells #[] 3)) := by (repeat' (first | (with_reducible exact Below.refl _ _) | (with_reducible assumption) | (with_reducible refine Below.al ?_ _) | (with_reducible refine Below.drew ?_) | (with_reducible refine Below.drN ?_ _) | (with_reducible refine Below.via (by with_reducible assumption) ?_) | (with_reducible refine Below.setc ?_ ?_ _) | (with_reducible exact Nat.le_refl _) | (simp; done) | (simp; omega)))
  have hO0 : AppI (w.alloc (Obj.cells #[] 3)) w.heap.size 3 (.slice (some ⟨w.heap.size, 0, none⟩) 0 0) [] := AppI.made (Nat.le_refl _) _ _ (by simp [maxLen]) rfl
  go_loopw [9, 12] (fun v i wr => ∃ (k : Nat) (A' : Option Addr) (c' : Nat), k ≤ 4 ∧ i = .int .i64 k ∧ v = .slice A' (othL F tx m least k).length c' ∧ AppI wr w.heap.size 3 (.slice A' (othL F tx m least k).length c') (othL F tx m least k) ∧ Below w.heap.size w wr) (fun _ i _ => 4 - (intOf i).toNat)
  case atStart => exact ⟨0, _, _, Nat.zero_le _, rfl, rfl, hO0, hB0⟩
  case round =>
    obtain ⟨k, A', c', hk, rfl, rfl, hown, hbw⟩ := hrel
    have HO := Lib.hid hown; clear hown hO0
    have HU := Lib.hid (HT.out.on hbw)
    have hbs := hbw.size
    have HB := Lib.hid hbw; clear hbw hB0
    have HL := Lib.hid (show (othL F tx m least k).length ≤ 4194304 by have := othL_len F tx m least k; omega)
    by_cases hlt : k < 4
    · obtain ⟨hc, hf⟩ := HU.out.cell hlt hm
      have hgl := HU.out.lt
      have hk4 : (k : Int) < 4 := by omega
      cases e1 : ((k : Int) != tx)
      · have HS := Lib.hid (othL_no1 (F := F) (item := m) (least := least) e1)
        go_wp2
        exact ⟨⟨k + 1, A', c', by omega, by go_num, by rw [HS.out], by rw [HS.out]; exact HO.out, HB.out⟩, by simp [intOf]; omega⟩
      · by_cases e2 : least ≤ F k m
        · have HS := Lib.hid (othL_yes e1 e2)
          go_wp2_with (at_builtin; refine wpList_app_i _ 29 3 i0 rfl _ _ rfl Try.underlying29 hi0 hz0 hz1 hz2 w.heap.size _ _ rfl HO.out (k : Int) _ rfl (by first | rfl | simp) HL.out hbs ?_; intro A2 c2 w2 hO2 hg2 hb2)
          refine ⟨⟨k + 1, A2, c2, by omega, by go_num, ?_, ?_, HB.out.trans hb2⟩, by simp [intOf]; omega⟩
          · rw [HS.out]; simp
          · rw [HS.out, List.length_append]; exact hO2
        · have HS := Lib.hid (othL_no2 (tx := tx) e2)
          go_wp2
          exact ⟨⟨k + 1, A', c', by omega, by go_num, by rw [HS.out], by rw [HS.out]; exact HO.out, HB.out⟩, by simp [intOf]; omega⟩
    · have HK := Lib.hid (show k = 4 by omega)
      have hk4 : ¬ (k : Int) < 4 := by omega
      go_wp2
      go_ret
      exact ⟨⟨A', c', by rw [← HK.out]; rfl⟩, HB.out⟩
set_option maxHeartbeats 1000000 in
theorem impl_illegal_any (g n m : Nat) (kind : Int) (F : Int → Int → Int) (w : World) (hn : n < 4) (hm : m < 3) (hF : -1 ≤ F n m) (hT : TabAt w g 82 F) :
    Calls Try.prog 49 #[.pointer (some ⟨g, 0, none⟩), .agg #[.int .i64 n, .int .i64 kind, .int .i64 m]] w fun e w' => e = .returned (.bool (illB F n kind m)) ∧ Below w.heap.size w w' := by
  have hgs := hT.lt
  obtain ⟨hc, hf⟩ := hT.cell hn hm
  have hn4 : (n : Int) < 4 := by omega
  have hm3 : (m : Int) < 3 := by omega
  have HT := Lib.hid (show TabAt (w.alloc (.cells #[.int .i64 n, .int .i64 kind, .int .i64 m] 53)) g 82 F from hT.on (by (repeat' (first | (with_reducible exact Below.refl _ _) | (with_reducible assumption) | (with_reducible refine Below.al ?_ _) | (with_reducible refine Below.drew ?_) | (with_reducible refine Below.drN ?_ _) | (with_reducible refine Below.via (by with_reducible assumption) ?_) | (with_reducible refine Below.setc ?_ ?_ _) | (with_reducible exact Nat.le_refl _) | (simp; done) | (simp; omega))))); clear hT
  cases e0 : (kind == 0)
  · cases e1 : (kind == 1)
    · have hill : illB F n kind m = if (kind == 4) = true then F n m != 1 else F n m == -1 := by
        unfold illB
        rw [e0, e1]
        have hd : decide (F n m < 0) = (F n m == -1) := by
          rw [Bool.eq_iff_iff]; simp; omega
        cases e4 : (kind == 4)
        · simp [hd]
        · rfl
      rw [hill]
      clear hill hF
      cases e4 : (kind == 4)
      all_goals
        go_enter Try.func49, Try.ntmps49
        go_wp2_with fail
        ((first | (with_reducible refine wp_region_from (by with_reducible assumption) follows (by kernel_rfl) ?_) | (refine wp_region_aft follows (by kernel_rfl) ?_)); (repeat (go_big_quiet_step (fail))); refine wpQuiet_nil ?_; intro _ hw'; obtain ⟨⟨w1, hb⟩, rfl⟩ := hw'; (try dsimp only); first | (replace hb := Below.via hb (by with_reducible assumption); (try clear hbc hbf hbz); obtain ⟨hbc, hbf, hbz⟩ := bcell hb) | (obtain ⟨hbc, hbf, hbz⟩ := bcell hb))
        go_wp2
        go_ret
        exact ⟨rfl, by (repeat' (first | (with_reducible exact Below.refl _ _) | (with_reducible assumption) | (with_reducible refine Below.al ?_ _) | (with_reducible refine Below.drew ?_) | (with_reducible refine Below.drN ?_ _) | (with_reducible refine Below.via (by with_reducible assumption) ?_) | (with_reducible refine Below.setc ?_ ?_ _) | (with_reducible exact Nat.le_refl _) | (simp; done) | (simp; omega)))⟩
    · have hill : illB F n kind m = (F n m == 1 || othB F n m 0 4) := by unfold illB; rw [e0, e1]; rfl
      rw [hill]
      clear hill hF
      cases e2 : (F n m == 1)
      · have HP := Lib.hid (othL_pos F n m 0 4)
        go_enter Try.func49, Try.ntmps49
        go_wp2_with fail
        ((first | (with_reducible refine wp_region_from (by with_reducible assumption) follows (by kernel_rfl) ?_) | (refine wp_region_aft follows (by kernel_rfl) ?_)); (repeat (go_big_quiet_step (fail))); refine wpQuiet_nil ?_; intro _ hw'; obtain ⟨⟨w1, hb⟩, rfl⟩ := hw'; (try dsimp only); first | (replace hb := Below.via hb (by with_reducible assumption); (try clear hbc hbf hbz); obtain ⟨hbc, hbf, hbz⟩ := bcell hb) | (obtain ⟨hbc, hbf, hbz⟩ := bcell hb))
        go_wp2_with fail
        refine (impl_others_any g m _ _ F _ hm (HT.out.on hb)).mono ?_
        rintro e w2 ⟨⟨A2, c2, rfl⟩, hb2⟩
        go_wp2
        go_ret
        exact ⟨ret_bool (by rw [← HP.out, Bool.false_or]; simp), by (repeat' (first | (with_reducible exact Below.refl _ _) | (with_reducible assumption) | (with_reducible refine Below.al ?_ _) | (with_reducible refine Below.drew ?_) | (with_reducible refine Below.drN ?_ _) | (with_reducible refine Below.via (by with_reducible assumption) ?_) | (with_reducible refine Below.setc ?_ ?_ _) | (with_reducible exact Nat.le_refl _) | (simp; done) | (simp; omega)))⟩
      · go_enter Try.func49, Try.ntmps49
        go_wp2_with fail
        ((first | (with_reducible refine wp_region_from (by with_reducible assumption) follows (by kernel_rfl) ?_) | (refine wp_region_aft follows (by kernel_rfl) ?_)); (repeat (go_big_quiet_step (fail))); refine wpQuiet_nil ?_; intro _ hw'; obtain ⟨⟨w1, hb⟩, rfl⟩ := hw'; (try dsimp only); first | (replace hb := Below.via hb (by with_reducible assumption); (try clear hbc hbf hbz); obtain ⟨hbc, hbf, hbz⟩ := bcell hb) | (obtain ⟨hbc, hbf, hbz⟩ := bcell hb))
        go_wp2
        go_ret
        exact ⟨ret_bool (by rw [Bool.true_or]), by (repeat' (first | (with_reducible exact Below.refl _ _) | (with_reducible assumption) | (with_reducible refine Below.al ?_ _) | (with_reducible refine Below.drew ?_) | (with_reducible refine Below.drN ?_ _) | (with_reducible refine Below.via (by with_reducible assumption) ?_) | (with_reducible refine Below.setc ?_ ?_ _) | (with_reducible exact Nat.le_refl _) | (simp; done) | (simp; omega)))⟩
  · have hill : illB F n kind m = (F n m != -1 || othB F n m 1 4) := by
      unfold illB
      rw [e0]
      have : decide (0 ≤ F n m) = (F n m != -1) := by
        rw [Bool.eq_iff_iff]; simp; omega
      rw [← this]
      rfl
    rw [hill]
    clear hill hF
    cases e2 : (F n m != -1)
    · have HP := Lib.hid (othL_pos F n m 1 4)
      go_enter Try.func49, Try.ntmps49
      go_wp2_with fail
      ((first | (with_reducible refine wp_region_from (by with_reducible assumption) follows (by kernel_rfl) ?_) | (refine wp_region_aft follows (by kernel_rfl) ?_)); (repeat (go_big_quiet_step (fail))); refine wpQuiet_nil ?_; intro _ hw'; obtain ⟨⟨w1, hb⟩, rfl⟩ := hw'; (try dsimp only); first | (replace hb := Below.via hb (by with_reducible assumption); (try clear hbc hbf hbz); obtain ⟨hbc, hbf, hbz⟩ := bcell hb) | (obtain ⟨hbc, hbf, hbz⟩ := bcell hb))
      go_wp2_with fail
      refine (impl_others_any g m _ _ F _ hm (HT.out.on hb)).mono ?_
      rintro e w2 ⟨⟨A2, c2, rfl⟩, hb2⟩
      go_wp2
      go_ret
      exact ⟨ret_bool (by rw [← HP.out, Bool.false_or]; simp), by (repeat' (first | (with_reducible exact Below.refl _ _) | (with_reducible assumption) | (with_reducible refine Below.al ?_ _) | (with_reducible refine Below.drew ?_) | (with_reducible refine Below.drN ?_ _) | (with_reducible refine Below.via (by with_reducible assumption) ?_) | (with_reducible refine Below.setc ?_ ?_ _) | (with_reducible exact Nat.le_refl _) | (simp; done) | (simp; omega)))⟩
    · go_enter Try.func49, Try.ntmps49
      go_wp2_with fail
      ((first | (with_reducible refine wp_region_from (by with_reducible assumption) follows (by kernel_rfl) ?_) | (refine wp_region_aft follows (by kernel_rfl) ?_)); (repeat (go_big_quiet_step (fail))); refine wpQuiet_nil ?_; intro _ hw'; obtain ⟨⟨w1, hb⟩, rfl⟩ := hw'; (try dsimp only); first | (replace hb := Below.via hb (by with_reducible assumption); (try clear hbc hbf hbz); obtain ⟨hbc, hbf, hbz⟩ := bcell hb) | (obtain ⟨hbc, hbf, hbz⟩ := bcell hb))
      go_wp2
      go_ret
      exact ⟨ret_bool (by rw [Bool.true_or]), by (repeat' (first | (with_reducible exact Below.refl _ _) | (with_reducible assumption) | (with_reducible refine Below.al ?_ _) | (with_reducible refine Below.drew ?_) | (with_reducible refine Below.drN ?_ _) | (with_reducible refine Below.via (by with_reducible assumption) ?_) | (with_reducible refine Below.setc ?_ ?_ _) | (with_reducible exact Nat.le_refl _) | (simp; done) | (simp; omega)))⟩

/-! ### IllegalAt -/
/-- The step k is illegal behind those ahead of it. -/
def illAt (l : List O3) (k : Nat) : Bool := if h : k < l.length then illB (fun t x => heldTo l t x k) l[k].tx l[k].kind l[k].item else false
def illV (l : List O3) : Int := if stepsB l = true then idxB (illAt l) (List.range l.length) else -1
set_option maxHeartbeats 1000000 in
theorem spec_IllegalAt_any (A : Option Addr) (c : Nat) (l : List O3) (w : World) (hl : l.length ≤ maxLen) (hR : RdO w w.heap.size A l) :
    Calls Try.prog 20 #[.slice A l.length c] w fun e w' => e = .returned (.tuple #[.int .i64 (illV l), .bool (stepsB l)]) ∧ Below w.heap.size w w' := by
  have HM := Lib.hid hl; clear hl
  cases hv : stepsB l
  · have hs : illV l = -1 := by unfold illV; rw [hv]; rfl
    rw [hs]
    have HV := Lib.hid hv; clear hv hs
    go_enter Try.func20, Try.ntmps20
    go_wp2_with (go_at_call 35; refine (spec_validSteps_any _ _ _ _ HM.out hR).mono ?_; rintro e w1 ⟨rfl, rfl⟩; rw [HV.out])
    go_ret2
    exact ⟨rfl, Below.refl _ _⟩
  · have hs : illV l = idxB (illAt l) (List.range l.length) := by unfold illV; rw [hv]; rfl
    rw [hs]
    have HA := Lib.hid (steps_all hv)
    have hlen := steps_len hv
    have HV := Lib.hid hv; clear hv hs
    go_enter Try.func20, Try.ntmps20
    go_wp2_with (go_at_call 35; refine (spec_validSteps_any _ _ _ _ HM.out hR).mono ?_; rintro e w1 ⟨rfl, rfl⟩; rw [HV.out])
    go_loopw [4] (fun i wr => ∃ k : Nat, k ≤ l.length ∧ i = .int .i64 k ∧ ((List.range l.length).take k).findIdx? (illAt l) = none ∧ Below w.heap.size w wr) (fun i _ => l.length - (intOf i).toNat)
    case atStart => exact ⟨0, Nat.zero_le _, rfl, rfl, Below.refl _ _⟩
    case round =>
      obtain ⟨k, hk, rfl, hall, hbw⟩ := hrel
      have HI := Lib.hid hall; clear hall
      have HB := Lib.hid hbw; clear hbw
      by_cases hlt : k < l.length
      · have hkr : k < (List.range l.length).length := by simpa using hlt
        have hg : (List.range l.length)[k] = k := by simp
        have hat : illAt l k = illB (fun t x => heldTo l t x k) l[k].tx l[k].kind l[k].item := by unfold illAt; rw [dif_pos hlt]
        cases e1 : illB (fun t x => heldTo l t x k) l[k].tx l[k].kind l[k].item
        all_goals have HE := Lib.hid e1; clear e1
        · have HS := Lib.hid (idx_on hkr HI.out (by rw [hg, hat, HE.out]))
          clear hkr hg hat
          go_wp2_with (go_at_call 48; refine (spec_illegal_any _ _ l k hlt HA.out _ HM.out (hR.on HB.out)).mono ?_; rintro e w1 ⟨rfl, hb1⟩; rw [HE.out])
          exact ⟨⟨k + 1, by omega, by go_num, HS.out, by have hbw := HB.out; (repeat' (first | (with_reducible exact Below.refl _ _) | (with_reducible assumption) | (with_reducible refine Below.al ?_ _) | (with_reducible refine Below.drew ?_) | (with_reducible refine Below.drN ?_ _) | (with_reducible refine Below.via (by with_reducible assumption) ?_) | (with_reducible refine Below.setc ?_ ?_ _) | (with_reducible exact Nat.le_refl _) | (simp; done) | (simp; omega)))⟩, by simp [intOf]; omega⟩
        · have HS := Lib.hid (idx_hit hkr HI.out (by rw [hg, hat, HE.out]))
          clear hkr hg hat
          go_wp2_with (go_at_call 48; refine (spec_illegal_any _ _ l k hlt HA.out _ HM.out (hR.on HB.out)).mono ?_; rintro e w1 ⟨rfl, hb1⟩; rw [HE.out])
          go_ret2
          exact ⟨by rw [← HS.out]; rfl, by have hbw := HB.out; (repeat' (first | (with_reducible exact Below.refl _ _) | (with_reducible assumption) | (with_reducible refine Below.al ?_ _) | (with_reducible refine Below.drew ?_) | (with_reducible refine Below.drN ?_ _) | (with_reducible refine Below.via (by with_reducible assumption) ?_) | (with_reducible refine Below.setc ?_ ?_ _) | (with_reducible exact Nat.le_refl _) | (simp; done) | (simp; omega)))⟩
      · have hk' : k = l.length := by omega
        have HK := Lib.hid hk'; clear hk'
        go_wp2
        go_ret2
        exact ⟨by rw [← idx_none (by have h := HI.out; rwa [HK.out, List.take_of_length_le (by simp)] at h)]; rfl, HB.out⟩
set_option maxHeartbeats 1000000 in
theorem impl_IllegalAt_any (A : Option Addr) (c : Nat) (l : List O3) (w : World) (hl : l.length ≤ maxLen) (hR : RdO w w.heap.size A l) :
    Calls Try.prog 21 #[.slice A l.length c] w fun e w' => e = .returned (.tuple #[.int .i64 (illV l), .bool (stepsB l)]) ∧ Below w.heap.size w w' := by
  have HM := Lib.hid hl; clear hl
  cases hv : stepsB l
  · have hs : illV l = -1 := by unfold illV; rw [hv]; rfl
    rw [hs]
    have HV := Lib.hid hv; clear hv hs
    go_enter Try.func21, Try.ntmps21
    go_wp2_with (go_at_call 39; refine (impl_ValidSteps_any _ _ _ _ HM.out hR).mono ?_; rintro e w1 ⟨rfl, hb1⟩; rw [HV.out])
    go_ret2
    exact ⟨rfl, by (repeat' (first | (with_reducible exact Below.refl _ _) | (with_reducible assumption) | (with_reducible refine Below.al ?_ _) | (with_reducible refine Below.drew ?_) | (with_reducible refine Below.drN ?_ _) | (with_reducible refine Below.via (by with_reducible assumption) ?_) | (with_reducible refine Below.setc ?_ ?_ _) | (with_reducible exact Nat.le_refl _) | (simp; done) | (simp; omega)))⟩
  · have hs : illV l = idxB (illAt l) (List.range l.length) := by unfold illV; rw [hv]; rfl
    rw [hs]
    have HA := Lib.hid (steps_all hv)
    have hlen := steps_len hv
    have HV := Lib.hid hv; clear hv hs
    go_enter Try.func21, Try.ntmps21
    go_wp2_with (go_at_call 39; refine (impl_ValidSteps_any _ _ _ _ HM.out hR).mono ?_; rintro e w1 ⟨rfl, hb1⟩; rw [HV.out])
    refine (impl_tableOf_any none 0 [] _ rfl (by simp) RdO.nil).mono ?_
    rintro e w2 ⟨⟨g, rfl, hgg, hT⟩, hb2⟩
    have hT0 : TabAt w2 g 82 (fun t x => heldTo l t x 0) := hT.congr (fun t x _ _ _ _ => rfl)
    have hG : w.heap.size ≤ g := by have := hb1.size; omega
    have hB0 : Below w.heap.size w w2 := by (repeat' (first | (with_reducible exact Below.refl _ _) | (with_reducible assumption) | (with_reducible refine Below.al ?_ _) | (with_reducible refine Below.drew ?_) | (with_reducible refine Below.drN ?_ _) | (with_reducible refine Below.via (by with_reducible assumption) ?_) | (with_reducible refine Below.setc ?_ ?_ _) | (with_reducible exact Nat.le_refl _) | (simp; done) | (simp; omega)))
    clear hT hb1 hb2 hgg
    go_wp2_with fail
    go_loopw [13] (fun i wr => ∃ k : Nat, k ≤ l.length ∧ i = .int .i64 k ∧ ((List.range l.length).take k).findIdx? (illAt l) = none ∧ TabAt wr g 82 (fun t x => heldTo l t x k) ∧ Below w.heap.size w wr) (fun i _ => l.length - (intOf i).toNat)
    case atStart => exact ⟨0, Nat.zero_le _, rfl, rfl, hT0, hB0⟩
    case round =>
      clear hT0 hB0
      obtain ⟨k, hk, rfl, hall, hT, hbw⟩ := hrel
      have HI := Lib.hid hall; clear hall
      have HU := Lib.hid hT
      have hz := hT.lt
      clear hT
      have HC := Lib.hid hbw; clear hbw
      by_cases hlt : k < l.length
      · have hkr : k < (List.range l.length).length := by simpa using hlt
        have hg : (List.range l.length)[k] = k := by simp
        have hat : illAt l k = illB (fun t x => heldTo l t x k) l[k].tx l[k].kind l[k].item := by unfold illAt; rw [dif_pos hlt]
        obtain ⟨b, off, rfl, hb, h0, h1, h2⟩ := (hR.on HC.out).at_ hlt
        obtain ⟨⟨t0, t3⟩, ⟨k0, k3⟩, ⟨x0, x3⟩⟩ := steps_at HA.out hlt
        have HTk := Lib.hid (held_take hlt)
        obtain ⟨n, hn⟩ : ∃ n : Nat, l[k].tx = n := ⟨l[k].tx.toNat, by omega⟩
        obtain ⟨m, hm⟩ : ∃ m : Nat, l[k].item = m := ⟨l[k].item.toNat, by omega⟩
        have HN := Lib.hid hn
        have HX := Lib.hid hm
        rw [hn] at h0 t3
        rw [hm] at h2 x3
        clear t0 x0 hn hm k3
        have hF : -1 ≤ heldTo l n m k := by rcases held_vals l HA.out n m k with h | h | h <;> omega
        have HF := Lib.hid hF; clear hF
        cases e1 : illB (fun t x => heldTo l t x k) l[k].tx l[k].kind l[k].item
        all_goals have HE := Lib.hid e1; clear e1
        · have HS := Lib.hid (idx_on hkr HI.out (by rw [hg, hat, HE.out]))
          clear hkr hg hat
          go_wp2_with fail
          refine (impl_illegal_any g n m l[k].kind (fun t x => heldTo l t x k) _ (by omega) (by omega) HF.out (HU.out.on (by (repeat' (first | (with_reducible exact Below.refl _ _) | (with_reducible assumption) | (with_reducible refine Below.al ?_ _) | (with_reducible refine Below.drew ?_) | (with_reducible refine Below.drN ?_ _) | (with_reducible refine Below.via (by with_reducible assumption) ?_) | (with_reducible refine Below.setc ?_ ?_ _) | (with_reducible exact Nat.le_refl _) | (simp; done) | (simp; omega)))))).mono ?_
          rintro e w3 ⟨rfl, hb3⟩
          rw [← HN.out, ← HX.out, HE.out]
          obtain ⟨hbc, hbf, hbz⟩ := bcell hb3
          have hz3 := hb3.size
          have HB3 := Lib.hid hb3; clear hb3
          go_wp2_with fail
          refine (impl_take_any g n m l[k].kind _ _ w.heap.size hG (by omega) (by omega) k0 (((HU.out.on (by (repeat' (first | (with_reducible exact Below.refl _ _) | (with_reducible assumption) | (with_reducible refine Below.al ?_ _) | (with_reducible refine Below.drew ?_) | (with_reducible refine Below.drN ?_ _) | (with_reducible refine Below.via (by with_reducible assumption) ?_) | (with_reducible refine Below.setc ?_ ?_ _) | (with_reducible exact Nat.le_refl _) | (simp; done) | (simp; omega))))).on HB3.out).on (by (repeat' (first | (with_reducible exact Below.refl _ _) | (with_reducible assumption) | (with_reducible refine Below.al ?_ _) | (with_reducible refine Below.drew ?_) | (with_reducible refine Below.drN ?_ _) | (with_reducible refine Below.via (by with_reducible assumption) ?_) | (with_reducible refine Below.setc ?_ ?_ _) | (with_reducible exact Nat.le_refl _) | (simp; done) | (simp; omega)))))).mono ?_
          rintro e w4 ⟨⟨v, rfl⟩, hT2, hb4⟩
          have hT3 : TabAt w4 g 82 (fun t x => heldTo l t x (k + 1)) := by rw [HTk.out, HN.out, HX.out]; exact hT2
          clear hT2
          have HT3 := Lib.hid hT3; clear hT3
          have hbx : Below w.heap.size w w4 := by
            refine Below.trans ?_ hb4
            have hbw := HC.out
            have hb3 := HB3.out
            (repeat' (first | (with_reducible exact Below.refl _ _) | (with_reducible assumption) | (with_reducible refine Below.al ?_ _) | (with_reducible refine Below.drew ?_) | (with_reducible refine Below.drN ?_ _) | (with_reducible refine Below.via (by with_reducible assumption) ?_) | (with_reducible refine Below.setc ?_ ?_ _) | (with_reducible exact Nat.le_refl _) | (simp; done) | (simp; omega)))
          have HX4 := Lib.hid hbx; clear hbx hb4
          go_wp2_with fail
          exact ⟨⟨k + 1, by omega, by go_num, HS.out, HT3.out, HX4.out⟩, by simp [intOf]; omega⟩
        · have HS := Lib.hid (idx_hit hkr HI.out (by rw [hg, hat, HE.out]))
          clear hkr hg hat
          go_wp2_with fail
          refine (impl_illegal_any g n m l[k].kind (fun t x => heldTo l t x k) _ (by omega) (by omega) HF.out (HU.out.on (by (repeat' (first | (with_reducible exact Below.refl _ _) | (with_reducible assumption) | (with_reducible refine Below.al ?_ _) | (with_reducible refine Below.drew ?_) | (with_reducible refine Below.drN ?_ _) | (with_reducible refine Below.via (by with_reducible assumption) ?_) | (with_reducible refine Below.setc ?_ ?_ _) | (with_reducible exact Nat.le_refl _) | (simp; done) | (simp; omega)))))).mono ?_
          rintro e w3 ⟨rfl, hb3⟩
          rw [← HN.out, ← HX.out, HE.out]
          have HB3 := Lib.hid hb3; clear hb3
          go_wp2_with fail
          go_ret2
          exact ⟨by rw [← HS.out]; rfl, by have hbw := HC.out; have hb3 := HB3.out; (repeat' (first | (with_reducible exact Below.refl _ _) | (with_reducible assumption) | (with_reducible refine Below.al ?_ _) | (with_reducible refine Below.drew ?_) | (with_reducible refine Below.drN ?_ _) | (with_reducible refine Below.via (by with_reducible assumption) ?_) | (with_reducible refine Below.setc ?_ ?_ _) | (with_reducible exact Nat.le_refl _) | (simp; done) | (simp; omega)))⟩
      · have hk' : k = l.length := by omega
        have HK := Lib.hid hk'; clear hk'
        go_wp2
        go_ret2
        exact ⟨by rw [← idx_none (by have h := HI.out; rwa [HK.out, List.take_of_length_le (by simp)] at h)]; rfl, HC.out⟩
end Go.Proofs.Ytajmhgekmjhoaaa
