/- The first operation that breaks a rule: contracts of the program's functions. -/
import Derived.Test.YtafjlklcffbbfaaFauM
import Derived.Test.YtafjlklcffbbfaaBox
namespace Go.Proofs.Ytafjlklcffbbfaa
set_option linter.unusedSimpArgs false
set_option linter.unusedVariables false
open Go.RowKit
theorem bne_f {x y : Int} (h : (x == y) = true) : (x != y) = false := by rw [bne, h]; rfl
theorem bne_t {x y : Int} (h : (x == y) = false) : (x != y) = true := by rw [bne, h]; rfl
set_option maxHeartbeats 1000000 in
theorem impl_dirty_any (A : Option Addr) (c : Nat) (l : List O3) (k i : Nat) (w : World) (hk : k < l.length) (hi : i ≤ l.length) (hl : l.length ≤ maxLen) (hc : l.length ≤ c) (hR : RdO w w.heap.size A l) :
    Calls Try.prog 64 #[.slice A l.length c, .int .i64 k, .int .i64 i] w fun e w' => e = .returned (.bool (dirtyI l k i)) ∧ Below w.heap.size w w' := by
  have HM := Lib.hid hl; clear hl
  have HR := Lib.hid hR
  have hD : dirtyI l k i = (decide (0 ≤ srcI l k) && (!(srcI l k == l[k].tx) && !(endL (l.take i) (srcI l k) == 2))) := by unfold dirtyI; rw [atO_eq hk]
  have hic : i ≤ c := by omega
  by_cases h1 : 0 ≤ srcI l k
  · cases e2 : (srcI l k == l[k].tx)
    · have e2' := bne_t e2
      cases e3 : (endL (l.take i) (srcI l k) == 2)
      · have e3' := bne_t e3
        have HD := Lib.hid (show dirtyI l k i = true by rw [hD, e2, e3]; simp [h1])
        clear hD e2 e3
        go_enter Try.func64, Try.ntmps64
        go_wp2_with fail
        refine (impl_readFrom_any _ _ l k _ hk HM.out hc HR.out).mono ?_
        rintro e w1 ⟨rfl, hb1⟩
        obtain ⟨b, off, rfl, hb, g0, g1, g2⟩ := (HR.out.on hb1).at_ hk
        go_wp2_with (go_at_call 49; refine (impl_endOf_take _ _ l i _ _ HM.out (HR.out.on hb1) hi).mono ?_; rintro e w2 ⟨rfl, hb2⟩)
        go_ret
        exact ⟨ret_bool HD.out.symm, by (repeat' (first | (with_reducible exact Below.refl _ _) | (with_reducible assumption) | (with_reducible refine Below.al ?_ _) | (with_reducible refine Below.drew ?_) | (with_reducible refine Below.drN ?_ _) | (with_reducible refine Below.via (by with_reducible assumption) ?_) | (with_reducible refine Below.setc ?_ ?_ _) | (with_reducible exact Nat.le_refl _) | (simp; done) | (simp; omega)))⟩
      · have e3' := bne_f e3
        have HD := Lib.hid (show dirtyI l k i = false by rw [hD, e2, e3]; simp)
        clear hD e2 e3
        go_enter Try.func64, Try.ntmps64
        go_wp2_with fail
        refine (impl_readFrom_any _ _ l k _ hk HM.out hc HR.out).mono ?_
        rintro e w1 ⟨rfl, hb1⟩
        obtain ⟨b, off, rfl, hb, g0, g1, g2⟩ := (HR.out.on hb1).at_ hk
        go_wp2_with (go_at_call 49; refine (impl_endOf_take _ _ l i _ _ HM.out (HR.out.on hb1) hi).mono ?_; rintro e w2 ⟨rfl, hb2⟩)
        go_ret
        exact ⟨ret_bool HD.out.symm, by (repeat' (first | (with_reducible exact Below.refl _ _) | (with_reducible assumption) | (with_reducible refine Below.al ?_ _) | (with_reducible refine Below.drew ?_) | (with_reducible refine Below.drN ?_ _) | (with_reducible refine Below.via (by with_reducible assumption) ?_) | (with_reducible refine Below.setc ?_ ?_ _) | (with_reducible exact Nat.le_refl _) | (simp; done) | (simp; omega)))⟩
    · have e2' := bne_f e2
      have HD := Lib.hid (show dirtyI l k i = false by rw [hD, e2]; simp)
      clear hD e2
      go_enter Try.func64, Try.ntmps64
      go_wp2_with fail
      refine (impl_readFrom_any _ _ l k _ hk HM.out hc HR.out).mono ?_
      rintro e w1 ⟨rfl, hb1⟩
      obtain ⟨b, off, rfl, hb, g0, g1, g2⟩ := (HR.out.on hb1).at_ hk
      go_wp2_with fail
      go_ret
      exact ⟨ret_bool HD.out.symm, by (repeat' (first | (with_reducible exact Below.refl _ _) | (with_reducible assumption) | (with_reducible refine Below.al ?_ _) | (with_reducible refine Below.drew ?_) | (with_reducible refine Below.drN ?_ _) | (with_reducible refine Below.via (by with_reducible assumption) ?_) | (with_reducible refine Below.setc ?_ ?_ _) | (with_reducible exact Nat.le_refl _) | (simp; done) | (simp; omega)))⟩
  · have HD := Lib.hid (show dirtyI l k i = false by rw [hD]; simp [h1])
    clear hD
    go_enter Try.func64, Try.ntmps64
    go_wp2_with fail
    refine (impl_readFrom_any _ _ l k _ hk HM.out hc HR.out).mono ?_
    rintro e w1 ⟨rfl, hb1⟩
    go_wp2_with fail
    go_ret
    exact ⟨ret_bool HD.out.symm, by (repeat' (first | (with_reducible exact Below.refl _ _) | (with_reducible assumption) | (with_reducible refine Below.al ?_ _) | (with_reducible refine Below.drew ?_) | (with_reducible refine Below.drN ?_ _) | (with_reducible refine Below.via (by with_reducible assumption) ?_) | (with_reducible refine Below.setc ?_ ?_ _) | (with_reducible exact Nat.le_refl _) | (simp; done) | (simp; omega)))⟩
set_option maxHeartbeats 2000000 in
theorem impl_open1_any (A : Option Addr) (c gs gi gf : Nat) (F : FuncId) (p : O3 → Bool) (l : List O3) (i : Nat) (o : O3) (w : World) (hi : i < l.length) (hl : l.length ≤ maxLen) (hc : l.length ≤ c)
    (hgo : ∀ args w, (callFunc F args).run Try.prog w = .ok (.enter F args) w)
    (hp : ∀ w1, Calls Try.prog F #[.agg #[.int .i64 o.tx, .int .i64 o.kind, .int .i64 o.item]] w1 fun e w' => e = .returned (.bool (p o)) ∧ Below w1.heap.size w1 w')
    (hgs : gs < w.heap.size) (hgi : gi < w.heap.size) (hgf : gf < w.heap.size) (hs : w.cell? ⟨gs, 0, none⟩ = some (.slice A l.length c)) (hi0 : w.cell? ⟨gi, 0, none⟩ = some (.int .i64 i)) (hf : w.cell? ⟨gf, 0, none⟩ = some (.func (.func F) #[] #[]))
    (hR : RdO w w.heap.size A l) :
    Calls Try.prog 86 #[.agg #[.int .i64 o.tx, .int .i64 o.kind, .int .i64 o.item], .pointer (some ⟨gf, 0, none⟩), .pointer (some ⟨gs, 0, none⟩), .pointer (some ⟨gi, 0, none⟩)] w fun e w' => e = .returned (.bool (p23I p l i o)) ∧ Below w.heap.size w w' := by
  have HM := Lib.hid hl; clear hl
  have HP := Lib.hid hp; clear hp
  have hD : p23I p l i o = (p o && (conflB o l[i] && decide (endL (l.take i) o.tx < 0))) := by unfold p23I; rw [atO_eq hi]
  have hic : i ≤ c := by omega
  obtain ⟨wb, hwb⟩ : ∃ wb, wb = w.alloc (.cells #[.int .i64 o.tx, .int .i64 o.kind, .int .i64 o.item] 43) := ⟨_, rfl⟩
  have hal : Below w.heap.size w wb := by rw [hwb]; (repeat' (first | (with_reducible exact Below.refl _ _) | (with_reducible assumption) | (with_reducible refine Below.al ?_ _) | (with_reducible refine Below.drew ?_) | (with_reducible refine Below.drN ?_ _) | (with_reducible refine Below.via (by with_reducible assumption) ?_) | (with_reducible refine Below.setc ?_ ?_ _) | (with_reducible exact Nat.le_refl _) | (simp; done) | (simp; omega)))
  have hbx : Bx3 wb w.heap.size 43 o.tx o.kind o.item := by rw [hwb]; exact Bx3.made w _ _ _ _
  obtain ⟨x0, x1, x2, x3, x4, x5, x6⟩ := hbx.at_
  have HRb := Lib.hid (hR.on hal)
  obtain ⟨b, off, rfl, hb, h0, h1, h2⟩ := HRb.out.at_ hi
  replace hs := (hal.cell (p := ⟨gs, 0, none⟩) hgs).trans hs
  replace hi0 := (hal.cell (p := ⟨gi, 0, none⟩) hgi).trans hi0
  replace hf := (hal.cell (p := ⟨gf, 0, none⟩) hgf).trans hf
  have hsz := hal.size
  replace hgs : gs < wb.heap.size := by omega
  replace hgi : gi < wb.heap.size := by omega
  replace hgf : gf < wb.heap.size := by omega
  have HAL := Lib.hid hal
  have HBX := Lib.hid hbx
  clear hbx hal hR
  cases e1 : p o
  · have HD := Lib.hid (show p23I p l i o = false by rw [hD, e1]; rfl)
    have E1 := Lib.hid e1
    clear hD e1
    go_enter Try.func86, Try.ntmps86
    go_wp2_with fail
    rw [← hwb]
    clear hwb
    ((first | (with_reducible refine wp_region_from (by with_reducible assumption) follows (by kernel_rfl) ?_) | (refine wp_region_aft follows (by kernel_rfl) ?_)); (repeat (go_big_quiet_step (exact aftb (HP.out _) E1.out))); refine wpQuiet_nil ?_; intro _ hw'; obtain ⟨⟨w1, hb⟩, rfl⟩ := hw'; (try dsimp only); first | (replace hb := Below.via hb (by with_reducible assumption); (try clear hbc hbf hbz); obtain ⟨hbc, hbf, hbz⟩ := bcell hb) | (obtain ⟨hbc, hbf, hbz⟩ := bcell hb))
    go_wp2
    go_ret
    exact ⟨ret_bool HD.out.symm, Below.trans HAL.out (hb.mono HAL.out.size)⟩
  · have E1 := Lib.hid e1
    cases e2 : conflB o l[i]
    · have HD := Lib.hid (show p23I p l i o = false by rw [hD, e2]; simp)
      have E2 := Lib.hid (show conflB ⟨o.tx, o.kind, o.item⟩ ⟨l[i].tx, l[i].kind, l[i].item⟩ = false from e2)
      clear hD e1 e2
      go_enter Try.func86, Try.ntmps86
      go_wp2_with fail
      rw [← hwb]
      clear hwb
      ((first | (with_reducible refine wp_region_from (by with_reducible assumption) follows (by kernel_rfl) ?_) | (refine wp_region_aft follows (by kernel_rfl) ?_)); (repeat (go_big_quiet_step (first | (go_at_call 72; exact aftb (impl_conflicts_any _ _ _ _ _ _ _) (E2.out)) | (go_at_call 49; exact aft (impl_endOf_take _ _ l i _ _ HM.out (HRb.out.on (After.below _)) (Nat.le_of_lt hi))) | exact aftb (HP.out _) E1.out))); refine wpQuiet_nil ?_; intro _ hw'; obtain ⟨⟨w1, hb⟩, rfl⟩ := hw'; (try dsimp only); first | (replace hb := Below.via hb (by with_reducible assumption); (try clear hbc hbf hbz); obtain ⟨hbc, hbf, hbz⟩ := bcell hb) | (obtain ⟨hbc, hbf, hbz⟩ := bcell hb))
      go_wp2
      go_ret
      exact ⟨ret_bool HD.out.symm, Below.trans HAL.out (hb.mono HAL.out.size)⟩
    · have E2 := Lib.hid (show conflB ⟨o.tx, o.kind, o.item⟩ ⟨l[i].tx, l[i].kind, l[i].item⟩ = true from e2)
      by_cases e3 : endL (l.take i) o.tx < 0
      · have HD := Lib.hid (show p23I p l i o = true by rw [hD, e1, e2]; simp [e3])
        clear hD e1 e2
        go_enter Try.func86, Try.ntmps86
        go_wp2_with fail
        rw [← hwb]
        clear hwb
        ((first | (with_reducible refine wp_region_from (by with_reducible assumption) follows (by kernel_rfl) ?_) | (refine wp_region_aft follows (by kernel_rfl) ?_)); (repeat (go_big_quiet_step (first | (go_at_call 72; exact aftb (impl_conflicts_any _ _ _ _ _ _ _) (E2.out)) | (go_at_call 49; exact aft (impl_endOf_take _ _ l i _ _ HM.out (HRb.out.on (After.below _)) (Nat.le_of_lt hi))) | exact aftb (HP.out _) E1.out))); refine wpQuiet_nil ?_; intro _ hw'; obtain ⟨⟨w1, hb⟩, rfl⟩ := hw'; (try dsimp only); first | (replace hb := Below.via hb (by with_reducible assumption); (try clear hbc hbf hbz); obtain ⟨hbc, hbf, hbz⟩ := bcell hb) | (obtain ⟨hbc, hbf, hbz⟩ := bcell hb))
        go_wp2
        go_ret
        exact ⟨ret_bool HD.out.symm, Below.trans HAL.out (hb.mono HAL.out.size)⟩
      · have HD := Lib.hid (show p23I p l i o = decide (endL (l.take i) o.tx < 0) by rw [hD, e1, e2]; rfl)
        clear hD e1 e2
        go_enter Try.func86, Try.ntmps86
        go_wp2_with fail
        rw [← hwb]
        clear hwb
        ((first | (with_reducible refine wp_region_from (by with_reducible assumption) follows (by kernel_rfl) ?_) | (refine wp_region_aft follows (by kernel_rfl) ?_)); (repeat (go_big_quiet_step (first | (go_at_call 72; exact aftb (impl_conflicts_any _ _ _ _ _ _ _) (E2.out)) | (go_at_call 49; exact aft (impl_endOf_take _ _ l i _ _ HM.out (HRb.out.on (After.below _)) (Nat.le_of_lt hi))) | exact aftb (HP.out _) E1.out))); refine wpQuiet_nil ?_; intro _ hw'; obtain ⟨⟨w1, hb⟩, rfl⟩ := hw'; (try dsimp only); first | (replace hb := Below.via hb (by with_reducible assumption); (try clear hbc hbf hbz); obtain ⟨hbc, hbf, hbz⟩ := bcell hb) | (obtain ⟨hbc, hbf, hbz⟩ := bcell hb))
        go_wp2
        go_ret
        exact ⟨ret_bool HD.out.symm, Below.trans HAL.out (hb.mono HAL.out.size)⟩
theorem ContainsFunc_Op_upto (A : Option Addr) (c : Nat) (l : List O3) (k : Nat) (F : FuncId) (caps : Array Value) (p : O3 → Bool) (w : World) (hl : l.length ≤ maxLen) (hR : RdO w w.heap.size A l) (hk : k ≤ l.length) (hF : TestOn Try.prog F caps w p l) :
    Calls Try.prog 85 #[.slice A k c, .func (.func F) #[] caps] w fun e w' => e = .returned (.bool ((l.take k).any p)) ∧ Below w.heap.size w w' := by
  have h := ContainsFunc_Op_any A c (l.take k) F caps p w (by rw [take_len hk]; omega) (hR.take k) ⟨hF.go, fun o ho => hF.test o (List.mem_of_mem_take ho)⟩
  rwa [take_len hk] at h
theorem cell_new (w : World) (v : Value) (E : TypeId) : (w.alloc (Obj.cells #[v] E)).cell? ⟨w.heap.size, 0, none⟩ = some v := by simp
set_option maxHeartbeats 1000000 in
theorem impl_open_any (A : Option Addr) (c : Nat) (F : FuncId) (p : O3 → Bool) (l : List O3) (i : Nat) (w : World) (hi : i < l.length) (hl : l.length ≤ maxLen) (hc : l.length ≤ c)
    (hgo : ∀ args w, (callFunc F args).run Try.prog w = .ok (.enter F args) w)
    (hp : ∀ (o : O3) w1, Calls Try.prog F #[.agg #[.int .i64 o.tx, .int .i64 o.kind, .int .i64 o.item]] w1 fun e w' => e = .returned (.bool (p o)) ∧ Below w1.heap.size w1 w')
    (hR : RdO w w.heap.size A l) :
    Calls Try.prog 67 #[.slice A l.length c, .int .i64 i, .func (.func F) #[] #[]] w fun e w' => e = .returned (.bool ((l.take i).any (p23I p l i))) ∧ Below w.heap.size w w' := by
  have HM := Lib.hid hl; clear hl
  have HP := Lib.hid hp; clear hp
  have hic : i ≤ c := by omega
  go_enter Try.func67, Try.ntmps67
  go_wp2_with fail
  have hb3 : Below w.heap.size w (((w.alloc (Obj.cells #[Value.slice A l.length c] 26)).alloc (Obj.cells #[Value.int IntKind.i64 i] 3)).alloc (Obj.cells #[Value.func (Fn.func F) #[] #[]] 63)) := by (repeat' (first | (with_reducible exact Below.refl _ _) | (with_reducible assumption) | (with_reducible refine Below.al ?_ _) | (with_reducible refine Below.drew ?_) | (with_reducible refine Below.drN ?_ _) | (with_reducible refine Below.via (by with_reducible assumption) ?_) | (with_reducible refine Below.setc ?_ ?_ _) | (with_reducible exact Nat.le_refl _) | (simp; done) | (simp; omega)))
  obtain ⟨W3, hW3⟩ : ∃ W3, W3 = (((w.alloc (Obj.cells #[Value.slice A l.length c] 26)).alloc (Obj.cells #[Value.int IntKind.i64 i] 3)).alloc (Obj.cells #[Value.func (Fn.func F) #[] #[]] 63)) := ⟨_, rfl⟩
  have c0 : W3.cell? ⟨w.heap.size, 0, none⟩ = some (.slice A l.length c) := by
    rw [hW3, World.cell?_alloc_lt _ _ _ (by simp; omega), World.cell?_alloc_lt _ _ _ (by simp)]
    simp
  have c1 : W3.cell? ⟨w.heap.size + 1, 0, none⟩ = some (.int .i64 i) := by
    rw [hW3, World.cell?_alloc_lt _ _ _ (by simp)]
    simp
  have c2 : W3.cell? ⟨w.heap.size + 1 + 1, 0, none⟩ = some (.func (.func F) #[] #[]) := by
    rw [hW3]
    have h := cell_new ((w.alloc (Obj.cells #[Value.slice A l.length c] 26)).alloc (Obj.cells #[Value.int IntKind.i64 i] 3)) (.func (.func F) #[] #[]) 63
    simpa using h
  have hs3 : W3.heap.size = w.heap.size + 3 := by rw [hW3]; simp
  rw [← hW3] at hb3 ⊢
  clear hW3
  refine (ContainsFunc_Op_upto _ _ l i 86 _ (p23I p l i) _ HM.out (hR.on hb3) (Nat.le_of_lt hi) ⟨Try.call86, fun o ho w1 hb => ?_⟩).mono ?_
  · have hsz := hb.size
    exact impl_open1_any A c w.heap.size (w.heap.size + 1) (w.heap.size + 1 + 1) F p l i o w1 hi HM.out hc hgo (HP.out o) (by omega) (by omega) (by omega)
      ((hb.cell (p := ⟨w.heap.size, 0, none⟩) (by show w.heap.size < _; omega)).trans c0) ((hb.cell (p := ⟨w.heap.size + 1, 0, none⟩) (by show w.heap.size + 1 < _; omega)).trans c1) ((hb.cell (p := ⟨w.heap.size + 1 + 1, 0, none⟩) (by show w.heap.size + 1 + 1 < _; omega)).trans c2) ((hR.on hb3).on hb)
  · rintro e w1 ⟨rfl, hb1⟩
    go_wp2
    go_ret
    exact ⟨rfl, by (repeat' (first | (with_reducible exact Below.refl _ _) | (with_reducible assumption) | (with_reducible refine Below.al ?_ _) | (with_reducible refine Below.drew ?_) | (with_reducible refine Below.drN ?_ _) | (with_reducible refine Below.via (by with_reducible assumption) ?_) | (with_reducible refine Below.setc ?_ ?_ _) | (with_reducible exact Nat.le_refl _) | (simp; done) | (simp; omega)))⟩
end Go.Proofs.Ytafjlklcffbbfaa
