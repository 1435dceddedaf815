/- RunStamps: the marks behind their lock; access. -/
import Derived.StillTailTactics
import Derived.Conc.RwLib
import Derived.Conc.MuData
import Derived.Conc.MuLone
import Derived.Test.YtejipiadapggmaaBox
import Derived.Test.YtejipiadapggmaaHeld
import Derived.Test.YtejipiadapggmaaLkI
import Derived.Test.YtejipiadapggmaaRsM
namespace Go.Proofs.Ytejipiadapggmaa
set_option linter.unusedSimpArgs false
set_option linter.unusedVariables false
open Go.RowKit

abbrev muLink : Go.Conc.Locks.MuLink := { lock := 66, unlock := 67, ilock := 72, iunlock := 73, lockSlow := 79, unlockSlow := 82, disable := 75, enable := 77, acquire := 78, relMerge := 80, cas32 := 76, add32 := 81, tMutex := 91, tIMutex := 89, tPMutex := 98, tPIMutex := 99, tPI32 := 101, tUP := 103, tNoCopy := 86, tU32 := 87 }
theorem muLib : Go.Conc.Locks.MuLib Try.prog muLink :=
  ⟨Try.func66.trans (congrArg some (by kernel_rfl)), Try.func67.trans (congrArg some (by kernel_rfl)), Try.func72.trans (congrArg some (by kernel_rfl)), Try.func73.trans (congrArg some (by kernel_rfl)), Try.func75.trans (congrArg some (by kernel_rfl)), Try.func77.trans (congrArg some (by kernel_rfl)), Try.func78.trans (congrArg some (by kernel_rfl)), Try.func80.trans (congrArg some (by kernel_rfl)), Try.func76.trans (congrArg some (by kernel_rfl)), Try.func81.trans (congrArg some (by kernel_rfl)),
   Try.underlying89, Try.runUnderlying89, Try.sizeOf89, Try.isAgg89, Try.zeroValue89, Try.underlying91, Try.runUnderlying91, Try.sizeOf91, Try.isAgg91, Try.zeroValue91, Try.underlying98, Try.runUnderlying98, Try.sizeOf98, Try.isAgg98, Try.zeroValue98, Try.underlying99, Try.runUnderlying99, Try.sizeOf99, Try.isAgg99, Try.zeroValue99, Try.underlying101, Try.runUnderlying101, Try.sizeOf101, Try.isAgg101, Try.zeroValue101, Try.underlying103, Try.runUnderlying103, Try.sizeOf103, Try.isAgg103, Try.zeroValue103, Try.underlying86, Try.runUnderlying86, Try.sizeOf86, Try.isAgg86, Try.zeroValue86, Try.underlying21, Try.runUnderlying21, Try.sizeOf21, Try.isAgg21, Try.zeroValue21, (by kernel_rfl)⟩

/-- The marks in a block of their own: the lock's two cells, three stamps of reads, three of writes. -/
def MkAt (w : World) (g : Nat) (st : Int) (rd wr : Int → Int) : Prop :=
  w.heap[g]? = some (.cells #[.int .i32 st, .int .u32 0, .int .i64 (rd 0), .int .i64 (rd 1), .int .i64 (rd 2), .int .i64 (wr 0), .int .i64 (wr 1), .int .i64 (wr 2)] 93 (0, 0))
section
variable {w w' : World} {g : Nat} {st : Int} {rd wr : Int → Int}
theorem MkAt.lt (h : MkAt w g st rd wr) : g < w.heap.size := lt_of_block h
theorem MkAt.fz (h : MkAt w g st rd wr) (j : Nat) : w.frozen? ⟨g, j, none⟩ = false := frozen_of_row w g j _ _ h
theorem MkAt.lock (h : MkAt w g st rd wr) : w.cell? ⟨g, 0, none⟩ = some (.int .i32 st) := by rw [cell_of_row w g 0 _ _ (0, 0) h]; rfl
theorem MkAt.rdc (h : MkAt w g st rd wr) {n : Nat} (hn : n < 3) : w.cell? ⟨g, 2 + n, none⟩ = some (.int .i64 (rd n)) := by
  rw [cell_of_row w g _ _ _ (0, 0) h]
  match n, hn with
  | 0, _ => rfl
  | 1, _ => rfl
  | 2, _ => rfl
theorem MkAt.wrc (h : MkAt w g st rd wr) {n : Nat} (hn : n < 3) : w.cell? ⟨g, 5 + n, none⟩ = some (.int .i64 (wr n)) := by
  rw [cell_of_row w g _ _ _ (0, 0) h]
  match n, hn with
  | 0, _ => rfl
  | 1, _ => rfl
  | 2, _ => rfl
theorem MkAt.on (h : MkAt w g st rd wr) (hb : Below w.heap.size w w') : MkAt w' g st rd wr := (hb.block g h.lt).trans h
theorem MkAt.drew (h : MkAt w g st rd wr) : MkAt w.drew g st rd wr := h
theorem MkAt.gr {b : Nat} (h : MkAt w g st rd wr) (hg : w.grownBy w' (some b)) (hne : g ≠ b) : MkAt w' g st rd wr := (hg.block g h.lt (by simpa using hne)).trans h
theorem MkAt.setL (h : MkAt w g st rd wr) (s : Int) : MkAt (w.setCell ⟨g, 0, none⟩ (.int .i32 s)) g s rd wr := by
  unfold MkAt; rw [heap_setCell_same w g 0 _ _ _ h]; rfl
theorem MkAt.setR (h : MkAt w g st rd wr) {n : Nat} (hn : n < 3) (v : Int) : MkAt (w.setCell ⟨g, 2 + n, none⟩ (.int .i64 v)) g st (up1 rd n v) wr := by
  unfold MkAt
  rw [heap_setCell_same w g _ _ _ _ h]
  match n, hn with
  | 0, _ => simp [up1]
  | 1, _ => simp [up1]
  | 2, _ => simp [up1]
theorem MkAt.setW (h : MkAt w g st rd wr) {n : Nat} (hn : n < 3) (v : Int) : MkAt (w.setCell ⟨g, 5 + n, none⟩ (.int .i64 v)) g st rd (up1 wr n v) := by
  unfold MkAt
  rw [heap_setCell_same w g _ _ _ _ h]
  match n, hn with
  | 0, _ => simp [up1]
  | 1, _ => simp [up1]
  | 2, _ => simp [up1]
end
theorem rs_grown_set {w w1 : World} {g n : Nat} {v : Value} (h : w.grownBy w1 (some g)) : w.grownBy (w1.setCell ⟨g, n, none⟩ v) (some g) :=
  h.trans ⟨rfl, rfl, rfl, by simp, fun k _ hk => Below.heap_setCell _ _ _ k (fun e => hk (by rw [e]))⟩
theorem grown_drew {w w1 : World} {b : Option Nat} (h : w.grownBy w1 b) : w.grownBy w1.drew b := h.trans ⟨rfl, rfl, rfl, Nat.le_refl _, fun _ _ _ => rfl⟩
set_option maxRecDepth 8192 in
set_option maxHeartbeats 4000000 in
theorem impl_macc_any (g : Nat) (o : O3) (st : Int) (skip : Bool) (rd wr : Int → Int) (w : World) (hv : validB o = true) (hT : MkAt w g 0 rd wr) :
    Calls Try.prog 45 #[.pointer (some ⟨g, 0, none⟩), .agg #[.int .i64 o.tx, .int .i64 o.kind, .int .i64 o.item], .int .i64 st, .bool skip] w fun e w' =>
      e = .returned (.int .i64 (rsOut skip rd wr o st)) ∧ MkAt w' g 0 (rsRd skip rd wr o st) (rsWr skip rd wr o st) ∧ w.grownBy w' (some g) := by
  obtain ⟨tx, kind, item⟩ := o
  have hT1 : MkAt (w.alloc (.cells #[.int .i64 tx, .int .i64 kind, .int .i64 item] 60)) g 0 rd wr := hT.on (by (repeat' (first | (with_reducible exact Below.refl _ _) | (with_reducible assumption) | (with_reducible refine Below.al ?_ _) | (with_reducible refine Below.drew ?_) | (with_reducible refine Below.drN ?_ _) | (with_reducible refine Below.via (by with_reducible assumption) ?_) | (with_reducible refine Below.setc ?_ ?_ _) | (with_reducible exact Nat.le_refl _) | (simp; done) | (simp; omega))))
  have hX1 : Bx3 (w.alloc (.cells #[.int .i64 tx, .int .i64 kind, .int .i64 item] 60)) w.heap.size 60 tx kind item := Bx3.made _ _ _ _ _
  have hgl := hT.lt
  have hGG := World.grownBy_alloc w (.cells #[.int .i64 tx, .int .i64 kind, .int .i64 item] 60) (some g)
  clear hT
  cases ha : accB ⟨tx, kind, item⟩
  · have HA := Lib.hid ha; clear ha
    go_enter_defers Try.func45, Try.ntmps45
    go_wp2_with fail
    refine (Go.MuLone.lock_free muLib ⟨g, 0, none⟩ _ hT1.lock (hT1.fz 0)).mono ?_
    rintro e w1 ⟨rfl, hw1⟩
    have M1 : MkAt w1 g 1 rd wr := by rw [hw1]; exact hT1.setL 1
    have X1 : Bx3 w1 w.heap.size 60 tx kind item := by rw [hw1]; exact hX1.far _ _ (by simp; omega)
    have G1 : w.grownBy w1 (some g) := by rw [hw1]; exact rs_grown_set hGG
    clear hw1 hT1 hX1 hGG
    obtain ⟨_, y1, y2, y3, y4, y5, y6⟩ := X1.at_
    go_wp2_with fail
    refine (impl_access_any _ _ _ _).mono ?_
    rintro e w2 ⟨rfl, hb2⟩
    rw [HA.out]
    have M2 := Lib.hid (M1.on hb2)
    have X2 := Lib.hid (X1.be hb2)
    have G2 := Lib.hid (G1.trans (grown_of_b hb2 _))
    obtain ⟨hz0, z1, z2, z3, z4, z5, z6⟩ := (X1.be hb2).at_
    have hg2 := M2.out.lt
    clear y1 y2 y3 y4 y5 y6 M1 X1 G1 hb2
    go_wp2_with fail
    refine leaves_cons (f := 67) (args := #[.pointer (some ⟨g, 0, none⟩)]) (by simp) (by simp [go_sem]) ?_
    refine (Go.MuLone.unlock_deferred muLib ⟨g, 0, none⟩ .returning _ M2.out.lock (M2.out.fz 0)).mono ?_
    rintro e u' w'' ⟨rfl, rfl, rfl⟩
    exact ⟨_, results_tmp rfl _ _ _, by simp [rsOut, HA.out], by simpa [rsRd, rsWr, HA.out] using M2.out.setL 0, rs_grown_set G2.out⟩
  · have HA := Lib.hid ha
    have hit : 0 ≤ item ∧ item ≤ 2 := by
      simp [validB, inR, accB, endB] at hv ha
      omega
    have hkk : kind = 0 ∨ kind = 1 := by simpa [accB] using ha
    clear ha hv
    obtain ⟨m, rfl⟩ := Int.eq_ofNat_of_zero_le hit.1
    have hm : m < 3 := by omega
    have hm3 : (m : Int) < 3 := by omega
    clear hit
    go_enter_defers Try.func45, Try.ntmps45
    go_wp2_with fail
    refine (Go.MuLone.lock_free muLib ⟨g, 0, none⟩ _ hT1.lock (hT1.fz 0)).mono ?_
    rintro e w1 ⟨rfl, hw1⟩
    have M1 : MkAt w1 g 1 rd wr := by rw [hw1]; exact hT1.setL 1
    have X1 : Bx3 w1 w.heap.size 60 tx kind (m : Int) := by rw [hw1]; exact hX1.far _ _ (by simp; omega)
    have G1 : w.grownBy w1 (some g) := by rw [hw1]; exact rs_grown_set hGG
    clear hw1 hT1 hX1 hGG
    obtain ⟨_, y1, y2, y3, y4, y5, y6⟩ := X1.at_
    go_wp2_with fail
    refine (impl_access_any _ _ _ _).mono ?_
    rintro e w2 ⟨rfl, hb2⟩
    rw [HA.out]
    have M2 := Lib.hid (M1.on hb2)
    have X2 := Lib.hid (X1.be hb2)
    have G2 := Lib.hid (G1.trans (grown_of_b hb2 _))
    obtain ⟨hz0, z1, z2, z3, z4, z5, z6⟩ := (X1.be hb2).at_
    have hg2 := M2.out.lt
    clear y1 y2 y3 y4 y5 y6 M1 X1 G1 hb2
    have c1 := M2.out.wrc hm
    have c2 := M2.out.rdc hm
    have c3 := M2.out.fz
    go_wp2_with fail
    have c4 := M2.out.lt
    rcases hkk with rfl | rfl
    · by_cases hlt : st < wr m
      · ((first | (with_reducible refine wp_region_from (by with_reducible assumption) follows (by kernel_rfl) ?_) | (refine wp_region_aft follows (by kernel_rfl) ?_)); (repeat (go_big_quiet_step (fail))); refine wpQuiet_nil ?_; intro _ hw'; obtain ⟨⟨w1, hb⟩, rfl⟩ := hw'; (try dsimp only); first | (replace hb := Below.via hb (by with_reducible assumption); (try clear hbc hbf hbz); obtain ⟨hbc, hbf, hbz⟩ := bcell hb) | (obtain ⟨hbc, hbf, hbz⟩ := bcell hb))
        rename_i w3
        have M3 := Lib.hid (M2.out.on hb)
        have G3 := Lib.hid (G2.out.trans (grown_of_b hb _))
        have X3 := Lib.hid (X2.out.be hb)
        clear hb hbc hbf hbz z1 z2 z3 z4 z5 z6 c1 c2 c3 c4
        obtain ⟨_, z1, z2, z3, z4, z5, z6⟩ := X3.out.at_
        have c1 := M3.out.wrc hm
        have c2 := M3.out.rdc hm
        have c3 := M3.out.fz
        have c4 := M3.out.lt
        go_wp2_with fail
        refine leaves_cons (f := 67) (args := #[.pointer (some ⟨g, 0, none⟩)]) (by simp) (by simp [go_sem]) ?_
        refine (Go.MuLone.unlock_deferred muLib ⟨g, 0, none⟩ .returning _ M3.out.lock (M3.out.fz 0)).mono ?_
        rintro e u' w'' ⟨rfl, rfl, rfl⟩
        exact ⟨_, results_tmp rfl _ _ _, by simp [rsOut, HA.out, hlt], by simpa [rsRd, rsWr, HA.out, hlt] using M3.out.setL 0, rs_grown_set G3.out⟩
      · ((first | (with_reducible refine wp_region_from (by with_reducible assumption) follows (by kernel_rfl) ?_) | (refine wp_region_aft follows (by kernel_rfl) ?_)); (repeat (go_big_quiet_step (fail))); refine wpQuiet_nil ?_; intro _ hw'; obtain ⟨⟨w1, hb⟩, rfl⟩ := hw'; (try dsimp only); first | (replace hb := Below.via hb (by with_reducible assumption); (try clear hbc hbf hbz); obtain ⟨hbc, hbf, hbz⟩ := bcell hb) | (obtain ⟨hbc, hbf, hbz⟩ := bcell hb))
        rename_i w3
        have M3 := Lib.hid (M2.out.on hb)
        have G3 := Lib.hid (G2.out.trans (grown_of_b hb _))
        have X3 := Lib.hid (X2.out.be hb)
        clear hb hbc hbf hbz z1 z2 z3 z4 z5 z6 c1 c2 c3 c4
        obtain ⟨_, z1, z2, z3, z4, z5, z6⟩ := X3.out.at_
        have c1 := M3.out.wrc hm
        have c2 := M3.out.rdc hm
        have c3 := M3.out.fz
        have c4 := M3.out.lt
        go_wp2_with fail
        refine wp_region_still_tail 15 (by kernel_rfl) (by kernel_rfl) ?_
        simp only [List.take_succ_cons, List.take_zero, List.drop_succ_cons, List.drop_zero]
        repeat still_step
        refine wpStill_nil ?_
        change wpList _ _ _ _ _ w3.drew
        go_wp2_with fail
        · have hx : rd m < st := by assumption
          have MM := M3.out.setR hm st
          have GG : w.grownBy _ (some g) := rs_grown_set (n := 2 + m) (v := .int .i64 st) G3.out
          refine leaves_cons (f := 67) (args := #[.pointer (some ⟨g, 0, none⟩)]) (by simp) (by simp [go_sem]) ?_
          refine (Go.MuLone.unlock_deferred muLib ⟨g, 0, none⟩ .returning _ MM.drew.lock (MM.drew.fz 0)).mono ?_
          rintro e u' w'' ⟨rfl, rfl, rfl⟩
          exact ⟨_, results_tmp rfl _ _ _, by simp [rsOut, HA.out, hlt, hx], by simpa [rsRd, rsWr, HA.out, hlt, hx] using MM.drew.setL 0, rs_grown_set (grown_drew GG)⟩
        · have hx : ¬ rd m < st := by omega
          have MM := M3.out.setR hm (rd m)
          have GG : w.grownBy _ (some g) := rs_grown_set (n := 2 + m) (v := .int .i64 (rd m)) G3.out
          refine leaves_cons (f := 67) (args := #[.pointer (some ⟨g, 0, none⟩)]) (by simp) (by simp [go_sem]) ?_
          refine (Go.MuLone.unlock_deferred muLib ⟨g, 0, none⟩ .returning _ MM.drew.lock (MM.drew.fz 0)).mono ?_
          rintro e u' w'' ⟨rfl, rfl, rfl⟩
          exact ⟨_, results_tmp rfl _ _ _, by simp [rsOut, HA.out, hlt, hx], by simpa [rsRd, rsWr, HA.out, hlt, hx] using MM.drew.setL 0, rs_grown_set (grown_drew GG)⟩
    · by_cases hr : st < rd m
      · ((first | (with_reducible refine wp_region_from (by with_reducible assumption) follows (by kernel_rfl) ?_) | (refine wp_region_aft follows (by kernel_rfl) ?_)); (repeat (go_big_quiet_step (fail))); refine wpQuiet_nil ?_; intro _ hw'; obtain ⟨⟨w1, hb⟩, rfl⟩ := hw'; (try dsimp only); first | (replace hb := Below.via hb (by with_reducible assumption); (try clear hbc hbf hbz); obtain ⟨hbc, hbf, hbz⟩ := bcell hb) | (obtain ⟨hbc, hbf, hbz⟩ := bcell hb))
        rename_i w3
        have M3 := Lib.hid (M2.out.on hb)
        have G3 := Lib.hid (G2.out.trans (grown_of_b hb _))
        have X3 := Lib.hid (X2.out.be hb)
        clear hb hbc hbf hbz z1 z2 z3 z4 z5 z6 c1 c2 c3 c4
        obtain ⟨_, z1, z2, z3, z4, z5, z6⟩ := X3.out.at_
        have c1 := M3.out.wrc hm
        have c2 := M3.out.rdc hm
        have c3 := M3.out.fz
        have c4 := M3.out.lt
        go_wp2_with fail
        ((first | (with_reducible refine wp_region_from (by with_reducible assumption) follows (by kernel_rfl) ?_) | (refine wp_region_aft follows (by kernel_rfl) ?_)); (repeat (go_big_quiet_step (fail))); refine wpQuiet_nil ?_; intro _ hw'; obtain ⟨⟨w1, hb⟩, rfl⟩ := hw'; (try dsimp only); first | (replace hb := Below.via hb (by with_reducible assumption); (try clear hbc hbf hbz); obtain ⟨hbc, hbf, hbz⟩ := bcell hb) | (obtain ⟨hbc, hbf, hbz⟩ := bcell hb))
        rename_i w4
        have M4 := Lib.hid (M3.out.on hb)
        have G4 := Lib.hid (G3.out.trans (grown_of_b hb _))
        have X4 := Lib.hid (X3.out.be hb)
        clear hb hbc hbf hbz z1 z2 z3 z4 z5 z6 c1 c2 c3 c4
        obtain ⟨_, z1, z2, z3, z4, z5, z6⟩ := X4.out.at_
        have c1 := M4.out.wrc hm
        have c2 := M4.out.rdc hm
        have c3 := M4.out.fz
        have c4 := M4.out.lt
        go_wp2_with fail
        refine leaves_cons (f := 67) (args := #[.pointer (some ⟨g, 0, none⟩)]) (by simp) (by simp [go_sem]) ?_
        refine (Go.MuLone.unlock_deferred muLib ⟨g, 0, none⟩ .returning _ M4.out.lock (M4.out.fz 0)).mono ?_
        rintro e u' w'' ⟨rfl, rfl, rfl⟩
        exact ⟨_, results_tmp rfl _ _ _, by simp [rsOut, HA.out, hr], by simpa [rsRd, rsWr, HA.out, hr] using M4.out.setL 0, rs_grown_set G4.out⟩
      · ((first | (with_reducible refine wp_region_from (by with_reducible assumption) follows (by kernel_rfl) ?_) | (refine wp_region_aft follows (by kernel_rfl) ?_)); (repeat (go_big_quiet_step (fail))); refine wpQuiet_nil ?_; intro _ hw'; obtain ⟨⟨w1, hb⟩, rfl⟩ := hw'; (try dsimp only); first | (replace hb := Below.via hb (by with_reducible assumption); (try clear hbc hbf hbz); obtain ⟨hbc, hbf, hbz⟩ := bcell hb) | (obtain ⟨hbc, hbf, hbz⟩ := bcell hb))
        rename_i w3
        have M3 := Lib.hid (M2.out.on hb)
        have G3 := Lib.hid (G2.out.trans (grown_of_b hb _))
        have X3 := Lib.hid (X2.out.be hb)
        clear hb hbc hbf hbz z1 z2 z3 z4 z5 z6 c1 c2 c3 c4
        obtain ⟨_, z1, z2, z3, z4, z5, z6⟩ := X3.out.at_
        have c1 := M3.out.wrc hm
        have c2 := M3.out.rdc hm
        have c3 := M3.out.fz
        have c4 := M3.out.lt
        go_wp2_with fail
        ((first | (with_reducible refine wp_region_from (by with_reducible assumption) follows (by kernel_rfl) ?_) | (refine wp_region_aft follows (by kernel_rfl) ?_)); (repeat (go_big_quiet_step (fail))); refine wpQuiet_nil ?_; intro _ hw'; obtain ⟨⟨w1, hb⟩, rfl⟩ := hw'; (try dsimp only); first | (replace hb := Below.via hb (by with_reducible assumption); (try clear hbc hbf hbz); obtain ⟨hbc, hbf, hbz⟩ := bcell hb) | (obtain ⟨hbc, hbf, hbz⟩ := bcell hb))
        rename_i w4
        have M4 := Lib.hid (M3.out.on hb)
        have G4 := Lib.hid (G3.out.trans (grown_of_b hb _))
        have X4 := Lib.hid (X3.out.be hb)
        clear hb hbc hbf hbz z1 z2 z3 z4 z5 z6 c1 c2 c3 c4
        obtain ⟨_, z1, z2, z3, z4, z5, z6⟩ := X4.out.at_
        have c1 := M4.out.wrc hm
        have c2 := M4.out.rdc hm
        have c3 := M4.out.fz
        have c4 := M4.out.lt
        go_wp2_with fail
        by_cases hlt : st < wr m
        · cases skip
          · ((first | (with_reducible refine wp_region_from (by with_reducible assumption) follows (by kernel_rfl) ?_) | (refine wp_region_aft follows (by kernel_rfl) ?_)); (repeat (go_big_quiet_step (fail))); refine wpQuiet_nil ?_; intro _ hw'; obtain ⟨⟨w1, hb⟩, rfl⟩ := hw'; (try dsimp only); first | (replace hb := Below.via hb (by with_reducible assumption); (try clear hbc hbf hbz); obtain ⟨hbc, hbf, hbz⟩ := bcell hb) | (obtain ⟨hbc, hbf, hbz⟩ := bcell hb))
            rename_i w5
            have M5 := Lib.hid (M4.out.on hb)
            have G5 := Lib.hid (G4.out.trans (grown_of_b hb _))
            have X5 := Lib.hid (X4.out.be hb)
            clear hb hbc hbf hbz z1 z2 z3 z4 z5 z6 c1 c2 c3 c4
            obtain ⟨_, z1, z2, z3, z4, z5, z6⟩ := X5.out.at_
            have c1 := M5.out.wrc hm
            have c2 := M5.out.rdc hm
            have c3 := M5.out.fz
            have c4 := M5.out.lt
            go_wp2_with fail
            ((first | (with_reducible refine wp_region_from (by with_reducible assumption) follows (by kernel_rfl) ?_) | (refine wp_region_aft follows (by kernel_rfl) ?_)); (repeat (go_big_quiet_step (fail))); refine wpQuiet_nil ?_; intro _ hw'; obtain ⟨⟨w1, hb⟩, rfl⟩ := hw'; (try dsimp only); first | (replace hb := Below.via hb (by with_reducible assumption); (try clear hbc hbf hbz); obtain ⟨hbc, hbf, hbz⟩ := bcell hb) | (obtain ⟨hbc, hbf, hbz⟩ := bcell hb))
            rename_i w6
            have M6 := Lib.hid (M5.out.on hb)
            have G6 := Lib.hid (G5.out.trans (grown_of_b hb _))
            have X6 := Lib.hid (X5.out.be hb)
            clear hb hbc hbf hbz z1 z2 z3 z4 z5 z6 c1 c2 c3 c4
            obtain ⟨_, z1, z2, z3, z4, z5, z6⟩ := X6.out.at_
            have c1 := M6.out.wrc hm
            have c2 := M6.out.rdc hm
            have c3 := M6.out.fz
            have c4 := M6.out.lt
            go_wp2_with fail
            refine leaves_cons (f := 67) (args := #[.pointer (some ⟨g, 0, none⟩)]) (by simp) (by simp [go_sem]) ?_
            refine (Go.MuLone.unlock_deferred muLib ⟨g, 0, none⟩ .returning _ M6.out.lock (M6.out.fz 0)).mono ?_
            rintro e u' w'' ⟨rfl, rfl, rfl⟩
            exact ⟨_, results_tmp rfl _ _ _, by simp [rsOut, HA.out, hr, hlt], by simpa [rsRd, rsWr, HA.out, hr, hlt] using M6.out.setL 0, rs_grown_set G6.out⟩
          · ((first | (with_reducible refine wp_region_from (by with_reducible assumption) follows (by kernel_rfl) ?_) | (refine wp_region_aft follows (by kernel_rfl) ?_)); (repeat (go_big_quiet_step (fail))); refine wpQuiet_nil ?_; intro _ hw'; obtain ⟨⟨w1, hb⟩, rfl⟩ := hw'; (try dsimp only); first | (replace hb := Below.via hb (by with_reducible assumption); (try clear hbc hbf hbz); obtain ⟨hbc, hbf, hbz⟩ := bcell hb) | (obtain ⟨hbc, hbf, hbz⟩ := bcell hb))
            rename_i w5
            have M5 := Lib.hid (M4.out.on hb)
            have G5 := Lib.hid (G4.out.trans (grown_of_b hb _))
            have X5 := Lib.hid (X4.out.be hb)
            clear hb hbc hbf hbz z1 z2 z3 z4 z5 z6 c1 c2 c3 c4
            obtain ⟨_, z1, z2, z3, z4, z5, z6⟩ := X5.out.at_
            have c1 := M5.out.wrc hm
            have c2 := M5.out.rdc hm
            have c3 := M5.out.fz
            have c4 := M5.out.lt
            go_wp2_with fail
            refine leaves_cons (f := 67) (args := #[.pointer (some ⟨g, 0, none⟩)]) (by simp) (by simp [go_sem]) ?_
            refine (Go.MuLone.unlock_deferred muLib ⟨g, 0, none⟩ .returning _ M5.out.lock (M5.out.fz 0)).mono ?_
            rintro e u' w'' ⟨rfl, rfl, rfl⟩
            exact ⟨_, results_tmp rfl _ _ _, by simp [rsOut, HA.out, hr, hlt], by simpa [rsRd, rsWr, HA.out, hr, hlt] using M5.out.setL 0, rs_grown_set G5.out⟩
        · ((first | (with_reducible refine wp_region_from (by with_reducible assumption) follows (by kernel_rfl) ?_) | (refine wp_region_aft follows (by kernel_rfl) ?_)); (repeat (go_big_quiet_step (fail))); refine wpQuiet_nil ?_; intro _ hw'; obtain ⟨⟨w1, hb⟩, rfl⟩ := hw'; (try dsimp only); first | (replace hb := Below.via hb (by with_reducible assumption); (try clear hbc hbf hbz); obtain ⟨hbc, hbf, hbz⟩ := bcell hb) | (obtain ⟨hbc, hbf, hbz⟩ := bcell hb))
          rename_i w5
          have M5 := Lib.hid (M4.out.on hb)
          have G5 := Lib.hid (G4.out.trans (grown_of_b hb _))
          have X5 := Lib.hid (X4.out.be hb)
          clear hb hbc hbf hbz z1 z2 z3 z4 z5 z6 c1 c2 c3 c4
          obtain ⟨_, z1, z2, z3, z4, z5, z6⟩ := X5.out.at_
          have c1 := M5.out.wrc hm
          have c2 := M5.out.rdc hm
          have c3 := M5.out.fz
          have c4 := M5.out.lt
          go_wp2_with fail
          ((first | (with_reducible refine wp_region_from (by with_reducible assumption) follows (by kernel_rfl) ?_) | (refine wp_region_aft follows (by kernel_rfl) ?_)); (repeat (go_big_quiet_step (fail))); refine wpQuiet_nil ?_; intro _ hw'; obtain ⟨⟨w1, hb⟩, rfl⟩ := hw'; (try dsimp only); first | (replace hb := Below.via hb (by with_reducible assumption); (try clear hbc hbf hbz); obtain ⟨hbc, hbf, hbz⟩ := bcell hb) | (obtain ⟨hbc, hbf, hbz⟩ := bcell hb))
          rename_i w6
          have M6 := Lib.hid (M5.out.on hb)
          have G6 := Lib.hid (G5.out.trans (grown_of_b hb _))
          have X6 := Lib.hid (X5.out.be hb)
          clear hb hbc hbf hbz z1 z2 z3 z4 z5 z6 c1 c2 c3 c4
          obtain ⟨_, z1, z2, z3, z4, z5, z6⟩ := X6.out.at_
          have c1 := M6.out.wrc hm
          have c2 := M6.out.rdc hm
          have c3 := M6.out.fz
          have c4 := M6.out.lt
          go_wp2_with fail
          refine wp_region_still_tail 7 (by kernel_rfl) (by kernel_rfl) ?_
          simp only [List.take_succ_cons, List.take_zero, List.drop_succ_cons, List.drop_zero]
          repeat still_step
          refine wpStill_nil ?_
          change wpList _ _ _ _ _ w6.drew
          go_wp2_with fail
          have hr' : ¬ st < rd m := by omega
          have hlt' : ¬ st < wr m := by omega
          have MM := M6.out.setW hm st
          have GG : w.grownBy _ (some g) := rs_grown_set (n := 5 + m) (v := .int .i64 st) G6.out
          refine leaves_cons (f := 67) (args := #[.pointer (some ⟨g, 0, none⟩)]) (by simp) (by simp [go_sem]) ?_
          refine (Go.MuLone.unlock_deferred muLib ⟨g, 0, none⟩ .returning _ MM.drew.lock (MM.drew.fz 0)).mono ?_
          rintro e u' w'' ⟨rfl, rfl, rfl⟩
          exact ⟨_, results_tmp rfl _ _ _, by simp [rsOut, HA.out, hr', hlt'], by simpa [rsRd, rsWr, HA.out, hr', hlt'] using MM.drew.setL 0, rs_grown_set (grown_drew GG)⟩
end Go.Proofs.Ytejipiadapggmaa
