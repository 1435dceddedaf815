/- The arguments that the drawn laws make: the reader of a code's bytes, its numbers, the schedules that it makes. What a drawn argument is like, not which one it is. -/
import Derived.ChangeSlices
import Derived.Laws.BitsAllLaws
import Derived.Test.YtaflkbemecjcpaaBox
namespace Go.Proofs.Ytaflkbemecjcpaa
set_option linter.unusedSimpArgs false
set_option linter.unusedVariables false
open Go.RowKit

/-! ### Bytes -/
/-- The slice at A has n bytes, below block B. -/
def RdB (w : World) (B : Nat) (A : Option Addr) (n : Nat) : Prop :=
  0 < n → ∃ b off, A = some ⟨b, off, none⟩ ∧ b < B ∧ ∀ k, k < n → ∃ x : Int, w.cell? ⟨b, off + k, none⟩ = some (.int .u8 x) ∧ 0 ≤ x ∧ x ≤ 255
section
variable {w w' : World} {B : Nat} {A : Option Addr} {n : Nat}
theorem RdB.keep (h : RdB w B A n) (hk : ∀ p : Addr, p.block < B → w'.cell? p = w.cell? p) : RdB w' B A n := fun hl => by
  obtain ⟨b, off, hA, hb, hc⟩ := h hl
  refine ⟨b, off, hA, hb, fun k hk' => ?_⟩
  rw [hk _ hb]
  exact hc k hk'
theorem RdB.below {B' : Nat} (h : RdB w B A n) (hb : Below B' w w') (hB : B ≤ B') : RdB w' B A n := h.keep fun _ hp => hb.cell (by omega)
theorem RdB.more {B' : Nat} (h : RdB w B A n) (hB : B ≤ B') : RdB w B' A n := fun hl => by
  obtain ⟨b, off, hA, hb, hc⟩ := h hl
  exact ⟨b, off, hA, by omega, hc⟩
theorem RdB.less {m : Nat} (h : RdB w B A n) (hm : m ≤ n) : RdB w B A m := fun hl => by
  obtain ⟨b, off, hA, hb, hc⟩ := h (by omega)
  exact ⟨b, off, hA, hb, fun k hk => hc k (by omega)⟩
end
section
open Go.ChangeShapes Go.WideShapes Go.Deep Go.Joins
variable {H : Type} {enc : TypeId × Value → H} {P : Program} {w : World} {base : Nat} {spare : Nat → Bool} {held : Bool}
theorem open_bytes {t e : TypeId} {v : Value} {d : DataW H} {p : List MemPlace} {r : Reach} {b0 : Nat} (ht : P.underlying t = some (.slice e)) (he : P.underlying e = some (.int .u8)) (hC : P.cellsOf e = 1)
    (hv : Value.okWide P w r b0 t v) (h : DataW.Trod enc P w base spare held t v d p) :
    ∃ (A : Option Addr) (c n : Nat), v = .slice A n c ∧ n ≤ c ∧ n ≤ maxLen ∧ RdB w w.heap.size A n := by
  obtain ⟨a0, len, cap, rfl⟩ := okWide_slice ht hv
  obtain ⟨fuel, hf⟩ := h
  rcases open_ints ht he hC hf with ⟨hcs, _⟩ | ⟨a, len', cap', zs, hcs, hb, hl, hm, hz, hx, hc, hw⟩
  · simp [Value.cells] at hcs
    obtain ⟨rfl, rfl, rfl⟩ := hcs
    exact ⟨none, 0, 0, rfl, Nat.le_refl _, by simp [maxLen], fun h => by omega⟩
  · simp [Value.cells] at hcs
    obtain ⟨rfl, rfl, rfl⟩ := hcs
    have hlz : len ≤ zs.length := by rw [hz]; split <;> omega
    refine ⟨some a, cap, len, rfl, hl, by omega, fun hpos => ?_⟩
    obtain ⟨b, off, spot⟩ := a
    have hspot : spot = none := by
      have h0 := hc 0 (by omega)
      have hsp := World.cell?_spot h0
      simpa [Addr.add] using hsp
    subst hspot
    have h0 := hc 0 (by omega)
    simp only [addr_add] at h0 hc
    refine ⟨b, off, rfl, World.block_lt_of_cell? w _ h0, fun k hk => ⟨zs.getD k 0, hc k (by omega), ?_⟩⟩
    have hmem : zs.getD k 0 ∈ zs := by
      rw [List.getD_eq_getElem?_getD, List.getElem?_eq_getElem (by omega)]
      exact List.getElem_mem _
    have h1 := hw _ hmem
    generalize zs.getD k 0 = z at h1
    simp [Lit.wf, IntKind.min, IntKind.max, IntKind.signed, IntKind.bits] at h1
    omega
end

/-! ### The reader -/
theorem bits_xor_nat (a b : Nat) (ha : a < 9223372036854775808) (hb : b < 9223372036854775808) : bits .xor .i64 (a : Int) (b : Int) = ((a ^^^ b : Nat) : Int) := by
  have hx : a ^^^ b < 2 ^ 63 := Nat.xor_lt_two_pow (by omega) (by omega)
  have h1 : (BitVec.ofInt 64 (a : Int)).toNat = a := by
    rw [BitVec.ofInt_natCast, BitVec.toNat_ofNat]; exact Nat.mod_eq_of_lt (by omega)
  have h2 : (BitVec.ofInt 64 (b : Int)).toNat = b := by
    rw [BitVec.ofInt_natCast, BitVec.toNat_ofNat]; exact Nat.mod_eq_of_lt (by omega)
  show IntKind.i64.wrap ((BitVec.ofInt 64 (a : Int) ^^^ BitVec.ofInt 64 (b : Int)).toNat : Int) = _
  rw [BitVec.toNat_xor, h1, h2, IntKind.wrap_i64]
  omega
theorem bits_xor_pos (a b : Int) (ha : 0 ≤ a ∧ a < 9223372036854775808) (hb : 0 ≤ b ∧ b < 9223372036854775808) : 0 ≤ bits .xor .i64 a b := by
  obtain ⟨n, rfl⟩ := Int.eq_ofNat_of_zero_le ha.1
  obtain ⟨m, rfl⟩ := Int.eq_ofNat_of_zero_le hb.1
  rw [bits_xor_nat n m (by omega) (by omega)]
  omega
/-- A reader in block g: bytes below it, at a position. -/
def RdrAt (w : World) (g : Nat) (P : Nat) : Prop := ∃ A n c, w.heap[g]? = some (.cells #[.slice A n c, .int .i64 P] 78 (0, 0)) ∧ n ≤ 2000 ∧ RdB w g A n
theorem RdrAt.lt {w : World} {g P : Nat} (h : RdrAt w g P) : g < w.heap.size := by
  obtain ⟨A, n, c, h, _⟩ := h
  exact lt_of_block h
theorem RdrAt.on {w w' : World} {g P B : Nat} (h : RdrAt w g P) (hb : Below B w w') (hB : g < B) : RdrAt w' g P := by
  obtain ⟨A, n, c, h1, h2, h3⟩ := h
  exact ⟨A, n, c, (hb.block g hB).trans h1, h2, h3.below hb (by omega)⟩
set_option maxRecDepth 100000 in
set_option maxHeartbeats 1000000 in
theorem newReader_any (A : Option Addr) (c n : Nat) (w : World) (hc : n ≤ c) (hl : n ≤ maxLen) (hR : RdB w w.heap.size A n) :
    Calls Try.prog 44 #[.slice A n c] w fun e w' => (e = .returned (.pointer (some ⟨w.heap.size, 0, none⟩)) ∧ RdrAt w' w.heap.size 0) ∧ Below w.heap.size w w' := by
  unfold maxLen at hl
  by_cases hn : n ≤ 2000
  · go_enter Try.func44, Try.ntmps44
    go_wp2
    go_ret
    exact ⟨⟨rfl, A, n, c, by rw [heap_alloc_new]; rfl, hn, hR.below (Below.al (Below.refl _ _) _) (Nat.le_refl _)⟩, by (repeat' (first | (with_reducible exact Below.refl _ _) | (with_reducible assumption) | (with_reducible refine Below.al ?_ _) | (with_reducible refine Below.drew ?_) | (with_reducible refine Below.drN ?_ _) | (with_reducible refine Below.via (by with_reducible assumption) ?_) | (with_reducible refine Below.setc ?_ ?_ _) | (with_reducible exact Nat.le_refl _) | (simp; done) | (simp; omega)))⟩
  · have hc2 : 2000 ≤ c := by omega
    go_enter Try.func44, Try.ntmps44
    go_wp2
    go_ret
    exact ⟨⟨rfl, A, 2000, c, by rw [heap_alloc_new]; rfl, Nat.le_refl _, (hR.less (by omega)).below (Below.al (Below.refl _ _) _) (Nat.le_refl _)⟩, by (repeat' (first | (with_reducible exact Below.refl _ _) | (with_reducible assumption) | (with_reducible refine Below.al ?_ _) | (with_reducible refine Below.drew ?_) | (with_reducible refine Below.drN ?_ _) | (with_reducible refine Below.via (by with_reducible assumption) ?_) | (with_reducible refine Below.setc ?_ ?_ _) | (with_reducible exact Nat.le_refl _) | (simp; done) | (simp; omega)))⟩

theorem tmod_nat (a b : Nat) : (a : Int).tmod (b : Int) = ((a % b : Nat) : Int) := by
  rw [Int.tmod_eq_emod_of_nonneg (by omega)]; simp
theorem tdiv_nat (a b : Nat) : (a : Int).tdiv (b : Int) = ((a / b : Nat) : Int) := by
  rw [Int.tdiv_eq_ediv_of_nonneg (by omega)]; simp
theorem rdr_next {w : World} {g P n c : Nat} {A : Option Addr} (hg : w.heap[g]? = some (.cells #[.slice A n c, .int .i64 P] 78 (0, 0))) (hn : n ≤ 2000) (hR : RdB w g A n) :
    RdrAt (w.setCell ⟨g, 1, none⟩ (.int .i64 (P + 1))) g (P + 1) ∧ w.grownBy (w.setCell ⟨g, 1, none⟩ (.int .i64 (P + 1))) (some g) := by
  refine ⟨⟨A, n, c, ?_, hn, hR.below (B' := g) ((Below.refl _ _).setCell (p := ⟨g, 1, none⟩) (Nat.le_refl _) _) (Nat.le_refl _)⟩, ?_⟩
  · rw [heap_setCell_same w g 1 _ _ _ hg]
    rfl
  · exact ⟨rfl, rfl, rfl, by simp, fun k hk hne => Below.heap_setCell w ⟨g, 1, none⟩ _ k (fun e => hne (by rw [e]))⟩
theorem grown_of_below {w w1 : World} (hb : Below w.heap.size w w1) (row : Option Nat) : w.grownBy w1 row := ⟨hb.os, hb.tape, hb.output, hb.size, fun k hk _ => hb.block k hk⟩
set_option maxRecDepth 100000 in
set_option maxHeartbeats 4000000 in
theorem pick_any (g P : Nat) (m : Int) (w : World) (hP : P < 1000000) (hm2 : m < 1000000) (hr : RdrAt w g P) :
    Calls Try.prog 57 #[.pointer (some ⟨g, 0, none⟩), .int .i64 m] w fun e w' => (∃ x : Int, e = .returned (.int .i64 x) ∧ 0 ≤ x ∧ (1 ≤ m → x < m)) ∧ RdrAt w' g (P + 1) ∧ w.grownBy w' (some g) := by
  obtain ⟨A, n, c, hg, hn, hR⟩ := hr
  have HX := Lib.hid (rdr_next hg hn hR)
  have hz := lt_of_block hg
  have hc0 : w.cell? ⟨g, 0, none⟩ = some (.slice A n c) := by rw [cell_of_row w g 0 _ _ (0, 0) hg]; rfl
  have hc1 : w.cell? ⟨g, 1, none⟩ = some (.int .i64 P) := by rw [cell_of_row w g 1 _ _ (0, 0) hg]; rfl
  have hf0 := frozen_of_row w g 0 _ _ hg
  have hf1 := frozen_of_row w g 1 _ _ hg
  clear hg
  by_cases hm : m < 1
  · clear hR
    go_enter Try.func57, Try.ntmps57
    go_wp2
    go_ret
    exact ⟨⟨0, rfl, Int.le_refl _, by first | omega | (intro _; omega)⟩, HX.out.1, HX.out.2⟩
  · by_cases hn0 : n = 0
    · subst hn0
      clear hR
      go_enter Try.func57, Try.ntmps57
      go_wp2
      go_ret
      exact ⟨⟨0, rfl, Int.le_refl _, by first | omega | (intro _; omega)⟩, HX.out.1, HX.out.2⟩
    · obtain ⟨b, off, rfl, hbg, hcell⟩ := hR (by omega)
      have hne : b ≠ g := by omega
      by_cases hPn : P < n
      · obtain ⟨x, hx, x0, x1⟩ := hcell P hPn
        clear hcell
        have hx' : (w.setCell ⟨g, 1, none⟩ (.int .i64 (P + 1))).cell? ⟨b, off + P, none⟩ = some (.int .u8 x) := by
          rw [World.cell?_of_block (Below.heap_setCell w ⟨g, 1, none⟩ _ b (by show b ≠ g; omega))]; exact hx
        go_enter Try.func57, Try.ntmps57
        go_wp2
        go_ret
        exact ⟨⟨_, rfl, Int.emod_nonneg _ (by omega), by first | exact Int.emod_lt_of_pos _ (by omega) | exact fun _ => Int.emod_lt_of_pos _ (by omega)⟩, HX.out.1, HX.out.2⟩
      · obtain ⟨x, hx, x0, x1⟩ := hcell (P % n) (Nat.mod_lt _ (by omega))
        obtain ⟨y, hy, y0, y1⟩ := hcell ((P * 7 + 3) % n) (Nat.mod_lt _ (by omega))
        have hq1 := Nat.mod_lt P (show 0 < n by omega)
        have hq2 := Nat.mod_lt (P * 7 + 3) (show 0 < n by omega)
        have hq3 := Nat.div_le_self P n
        have hx' : (w.setCell ⟨g, 1, none⟩ (.int .i64 (P + 1))).cell? ⟨b, off + P % n, none⟩ = some (.int .u8 x) := by
          rw [World.cell?_of_block (Below.heap_setCell w ⟨g, 1, none⟩ _ b (by show b ≠ g; omega))]; exact hx
        have hy' : (w.setCell ⟨g, 1, none⟩ (.int .i64 (P + 1))).cell? ⟨b, off + (P * 7 + 3) % n, none⟩ = some (.int .u8 y) := by
          rw [World.cell?_of_block (Below.heap_setCell w ⟨g, 1, none⟩ _ b (by show b ≠ g; omega))]; exact hy
        have t1 := tmod_nat P n
        have t2 : ((P : Int) * 7 + 3).tmod (n : Int) = (((P * 7 + 3) % n : Nat) : Int) := by rw [← tmod_nat]; simp
        have t3 := tdiv_nat P n
        have t1' : (P : Int) % (n : Int) = ((P % n : Nat) : Int) := by simp
        have t2' : ((P : Int) * 7 + 3) % (n : Int) = (((P * 7 + 3) % n : Nat) : Int) := by simp
        have t3' : (P : Int) / (n : Int) = ((P / n : Nat) : Int) := by simp
        generalize hq4 : P % n = r1 at *
        generalize hq5 : (P * 7 + 3) % n = r2 at *
        generalize hq6 : P / n = r3 at *
        clear hcell hq4 hq5 hq6
        have hbz : b < w.heap.size := by omega
        go_enter Try.func57, Try.ntmps57
        go_wp2_with fail
        ((first | (with_reducible refine wp_region_from (by with_reducible assumption) follows (by kernel_rfl) ?_) | (refine wp_region_aft follows (by kernel_rfl) ?_)); (repeat (go_big_quiet_step (fail))); refine wpQuiet_nil ?_; intro _ hw'; obtain ⟨⟨w1, hb⟩, rfl⟩ := hw'; (try dsimp only); first | (replace hb := Below.via hb (by with_reducible assumption); (try clear hbc hbf hbz); obtain ⟨hbc, hbf, hbz⟩ := bcell hb) | (obtain ⟨hbc, hbf, hbz⟩ := bcell hb))
        go_wp2
        go_ret
        exact ⟨⟨_, rfl, Int.tmod_nonneg _ (bits_xor_pos _ _ (by omega) (by omega)), by first | exact Int.tmod_lt_of_pos _ (by omega) | exact fun _ => Int.tmod_lt_of_pos _ (by omega)⟩, HX.out.1.on hb (by simp; omega), HX.out.2.trans (grown_of_below hb _)⟩
set_option maxRecDepth 100000 in
set_option maxHeartbeats 1000000 in
theorem one_any (g P : Nat) (A : Option Addr) (c : Nat) (l : List Int) (w : World) (hP : P < 1000000) (hl : l.length < 1000000) (h1 : 1 ≤ l.length) (hr : RdrAt w g P) (hR : RdI w w.heap.size A l) (hne : ∀ b off, A = some ⟨b, off, none⟩ → b ≠ g) :
    Calls Try.prog 56 #[.pointer (some ⟨g, 0, none⟩), .slice A l.length c] w fun e w' => (∃ x : Int, e = .returned (.int .i64 x) ∧ x ∈ l) ∧ RdrAt w' g (P + 1) ∧ w.grownBy w' (some g) := by
  go_enter Try.func56, Try.ntmps56
  go_wp2_with fail
  refine (pick_any g P l.length _ hP (by omega) hr).mono ?_
  rintro e w2 ⟨⟨x, rfl, x0, x1⟩, hr2, hg2⟩
  obtain ⟨k, rfl⟩ : ∃ k : Nat, x = k := ⟨x.toNat, by omega⟩
  have hk : k < l.length := by have := x1 (by omega); omega
  obtain ⟨b, off, rfl, hb, h0⟩ := hR.at_ hk
  have h0' : w2.cell? ⟨b, off + k, none⟩ = some (.int .i64 l[k]) := (World.cell?_of_block (hg2.block b hb (by simpa using hne b off rfl))).trans h0
  clear x0 x1 h0
  go_wp2
  go_ret
  exact ⟨⟨l[k], rfl, List.getElem_mem hk⟩, hr2, hg2⟩
section
variable {w w1 w2 : World} {row : Option Nat} {g P : Nat}
theorem gr_al (h : w.grownBy w1 row) (o : Obj) : w.grownBy (w1.alloc o) row := h.trans (World.grownBy_alloc w1 o row)
theorem gr_st (h : w.grownBy w1 row) (p : Addr) (u : Value) (hp : w.heap.size ≤ p.block) : w.grownBy (w1.setCell p u) row :=
  ⟨h.os, h.tape, h.output, by have := h.size; simpa using this, fun k hk hne => (Below.heap_setCell w1 p u k (by omega)).trans (h.block k hk hne)⟩
theorem gr_dr (h : w.grownBy w1 row) : w.grownBy w1.drew row := h.trans ⟨rfl, rfl, rfl, Nat.le_refl _, fun _ _ _ => rfl⟩
theorem gr_be (h : w.grownBy w1 row) (hb : Below w1.heap.size w1 w2) : w.grownBy w2 row := h.trans (grown_of_below hb row)
theorem RdrAt.al (h : RdrAt w g P) (o : Obj) : RdrAt (w.alloc o) g P := h.on (Below.al (Below.refl _ _) o) h.lt
theorem RdrAt.be (h : RdrAt w g P) (hb : Below w.heap.size w w1) : RdrAt w1 g P := h.on hb h.lt
theorem RdrAt.st (h : RdrAt w g P) (p : Addr) (u : Value) (hp : g < p.block) : RdrAt (w.setCell p u) g P := h.on ((Below.refl (g + 1) w).setCell (p := p) (by omega) u) (Nat.lt_succ_self _)
/-- a literal list of numbers -/
theorem lit_rd (w : World) (E : TypeId) (l : List Int) : RdI (w.alloc (.cells (cellsI l).toArray E)) (w.alloc (.cells (cellsI l).toArray E)).heap.size (some ⟨w.heap.size, 0, none⟩) l := fun _ => by
  refine ⟨w.heap.size, 0, rfl, by simp, fun k hk => ?_⟩
  rw [World.cell?_alloc_new]
  simp [cellsI, hk]
end
theorem gcell {w w1 : World} {g : Nat} (hg : w.grownBy w1 (some g)) : (∀ b o, b < w.heap.size → b ≠ g → w1.cell? ⟨b, o, none⟩ = w.cell? ⟨b, o, none⟩) ∧ (∀ b o, b < w.heap.size → b ≠ g → w1.frozen? ⟨b, o, none⟩ = w.frozen? ⟨b, o, none⟩) ∧ (∀ b, b < w.heap.size → (b < w1.heap.size) = True) :=
  ⟨fun b o h hne => World.cell?_of_block (hg.block b h (by simpa using hne)), fun b o h hne => World.frozen?_of_block (hg.block b h (by simpa using hne)), fun b h => by have := hg.size; simp; omega⟩
end Go.Proofs.Ytaflkbemecjcpaa
