/- The arguments that the drawn laws make: the reader of a code's bytes, its numbers, the schedules that it makes. What a drawn argument is like, not which one it is. -/
import Derived.ChangeSlices
import Derived.Laws.BitsAllLaws
import Derived.Test.YtlcaadjlghbcpaaFilt
namespace Go.Proofs.Ytlcaadjlghbcpaa
set_option linter.unusedSimpArgs false
set_option linter.unusedVariables false
open Go.RowKit

/-! ### Bytes -/
/-- The slice at A has n bytes, below block B. -/
def RdB (w : World) (B : Nat) (A : Option Addr) (n : Nat) : Prop :=
  0 < n → ∃ b off, A = some ⟨b, off, none⟩ ∧ b < B ∧ ∀ k, k < n → ∃ x : Int, w.cell? ⟨b, off + k, none⟩ = some (.int .u8 x) ∧ 0 ≤ x ∧ x ≤ 255
section
variable {w w' : World} {B : Nat} {A : Option Addr} {n : Nat}
theorem RdB.keep (h : RdB w B A n) (hk : ∀ p : Addr, p.block < B → w'.cell? p = w.cell? p) : RdB w' B A n := fun hl => by
  obtain ⟨b, off, hA, hb, hc⟩ := h hl
  refine ⟨b, off, hA, hb, fun k hk' => ?_⟩
  rw [hk _ hb]
  exact hc k hk'
theorem RdB.below {B' : Nat} (h : RdB w B A n) (hb : Below B' w w') (hB : B ≤ B') : RdB w' B A n := h.keep fun _ hp => hb.cell (by omega)
theorem RdB.more {B' : Nat} (h : RdB w B A n) (hB : B ≤ B') : RdB w B' A n := fun hl => by
  obtain ⟨b, off, hA, hb, hc⟩ := h hl
  exact ⟨b, off, hA, by omega, hc⟩
theorem RdB.less {m : Nat} (h : RdB w B A n) (hm : m ≤ n) : RdB w B A m := fun hl => by
  obtain ⟨b, off, hA, hb, hc⟩ := h (by omega)
  exact ⟨b, off, hA, hb, fun k hk => hc k (by omega)⟩
end
section
open Go.ChangeShapes Go.WideShapes Go.Deep Go.Joins
variable {H : Type} {enc : TypeId × Value → H} {P : Program} {w : World} {base : Nat} {spare : Nat → Bool} {held : Bool}
theorem open_bytes {t e : TypeId} {v : Value} {d : DataW H} {p : List MemPlace} {r : Reach} {b0 : Nat} (ht : P.underlying t = some (.slice e)) (he : P.underlying e = some (.int .u8)) (hC : P.cellsOf e = 1)
    (hv : Value.okWide P w r b0 t v) (h : DataW.Trod enc P w base spare held t v d p) :
    ∃ (A : Option Addr) (c n : Nat), v = .slice A n c ∧ n ≤ c ∧ n ≤ maxLen ∧ RdB w w.heap.size A n := by
  obtain ⟨a0, len, cap, rfl⟩ := okWide_slice ht hv
  obtain ⟨fuel, hf⟩ := h
  rcases open_ints ht he hC hf with ⟨hcs, _⟩ | ⟨a, len', cap', zs, hcs, hb, hl, hm, hz, hx, hc, hw⟩
  · simp [Value.cells] at hcs
    obtain ⟨rfl, rfl, rfl⟩ := hcs
    exact ⟨none, 0, 0, rfl, Nat.le_refl _, by simp [maxLen], fun h => by omega⟩
  · simp [Value.cells] at hcs
    obtain ⟨rfl, rfl, rfl⟩ := hcs
    have hlz : len ≤ zs.length := by rw [hz]; split <;> omega
    refine ⟨some a, cap, len, rfl, hl, by omega, fun hpos => ?_⟩
    obtain ⟨b, off, spot⟩ := a
    have hspot : spot = none := by
      have h0 := hc 0 (by omega)
      have hsp := World.cell?_spot h0
      simpa [Addr.add] using hsp
    subst hspot
    have h0 := hc 0 (by omega)
    simp only [addr_add] at h0 hc
    refine ⟨b, off, rfl, World.block_lt_of_cell? w _ h0, fun k hk => ⟨zs.getD k 0, hc k (by omega), ?_⟩⟩
    have hmem : zs.getD k 0 ∈ zs := by
      rw [List.getD_eq_getElem?_getD, List.getElem?_eq_getElem (by omega)]
      exact List.getElem_mem _
    have h1 := hw _ hmem
    generalize zs.getD k 0 = z at h1
    simp [Lit.wf, IntKind.min, IntKind.max, IntKind.signed, IntKind.bits] at h1
    omega
end

/-! ### The reader -/
theorem bits_xor_nat (a b : Nat) (ha : a < 9223372036854775808) (hb : b < 9223372036854775808) : bits .xor .i64 (a : Int) (b : Int) = ((a ^^^ b : Nat) : Int) := by
  have hx : a ^^^ b < 2 ^ 63 := Nat.xor_lt_two_pow (by omega) (by omega)
  have h1 : (BitVec.ofInt 64 (a : Int)).toNat = a := by
    rw [BitVec.ofInt_natCast, BitVec.toNat_ofNat]; exact Nat.mod_eq_of_lt (by omega)
  have h2 : (BitVec.ofInt 64 (b : Int)).toNat = b := by
    rw [BitVec.ofInt_natCast, BitVec.toNat_ofNat]; exact Nat.mod_eq_of_lt (by omega)
  show IntKind.i64.wrap ((BitVec.ofInt 64 (a : Int) ^^^ BitVec.ofInt 64 (b : Int)).toNat : Int) = _
  rw [BitVec.toNat_xor, h1, h2, IntKind.wrap_i64]
  omega
theorem bits_xor_pos (a b : Int) (ha : 0 ≤ a ∧ a < 9223372036854775808) (hb : 0 ≤ b ∧ b < 9223372036854775808) : 0 ≤ bits .xor .i64 a b := by
  obtain ⟨n, rfl⟩ := Int.eq_ofNat_of_zero_le ha.1
  obtain ⟨m, rfl⟩ := Int.eq_ofNat_of_zero_le hb.1
  rw [bits_xor_nat n m (by omega) (by omega)]
  omega
/-- A reader in block g: bytes below it, at a position. -/
def RdrAt (w : World) (g : Nat) (P : Nat) : Prop := ∃ A n c, w.heap[g]? = some (.cells #[.slice A n c, .int .i64 P] 66 (0, 0)) ∧ n ≤ 2000 ∧ RdB w g A n
theorem RdrAt.lt {w : World} {g P : Nat} (h : RdrAt w g P) : g < w.heap.size := by
  obtain ⟨A, n, c, h, _⟩ := h
  exact lt_of_block h
theorem RdrAt.on {w w' : World} {g P B : Nat} (h : RdrAt w g P) (hb : Below B w w') (hB : g < B) : RdrAt w' g P := by
  obtain ⟨A, n, c, h1, h2, h3⟩ := h
  exact ⟨A, n, c, (hb.block g hB).trans h1, h2, h3.below hb (by omega)⟩
set_option maxHeartbeats 1000000 in
theorem newReader_any (A : Option Addr) (c n : Nat) (w : World) (hc : n ≤ c) (hl : n ≤ maxLen) (hR : RdB w w.heap.size A n) :
    Calls Try.prog 58 #[.slice A n c] w fun e w' => (e = .returned (.pointer (some ⟨w.heap.size, 0, none⟩)) ∧ RdrAt w' w.heap.size 0) ∧ Below w.heap.size w w' := by
  unfold maxLen at hl
  by_cases hn : n ≤ 2000
  · go_enter Try.func58, Try.ntmps58
    go_wp2
    go_ret
    exact ⟨⟨rfl, A, n, c, by rw [heap_alloc_new]; rfl, hn, hR.below (Below.al (Below.refl _ _) _) (Nat.le_refl _)⟩, by (repeat' (first | (with_reducible exact Below.refl _ _) | (with_reducible assumption) | (with_reducible refine Below.al ?_ _) | (with_reducible refine Below.drew ?_) | (with_reducible refine Below.drN ?_ _) | (with_reducible refine Below.via (by with_reducible assumption) ?_) | (with_reducible refine Below.setc ?_ ?_ _) | (with_reducible exact Nat.le_refl _) | (simp; done) | (simp; omega)))⟩
  · have hc2 : 2000 ≤ c := by omega
    go_enter Try.func58, Try.ntmps58
    go_wp2
    go_ret
    exact ⟨⟨rfl, A, 2000, c, by rw [heap_alloc_new]; rfl, Nat.le_refl _, (hR.less (by omega)).below (Below.al (Below.refl _ _) _) (Nat.le_refl _)⟩, by (repeat' (first | (with_reducible exact Below.refl _ _) | (with_reducible assumption) | (with_reducible refine Below.al ?_ _) | (with_reducible refine Below.drew ?_) | (with_reducible refine Below.drN ?_ _) | (with_reducible refine Below.via (by with_reducible assumption) ?_) | (with_reducible refine Below.setc ?_ ?_ _) | (with_reducible exact Nat.le_refl _) | (simp; done) | (simp; omega)))⟩

theorem tmod_nat (a b : Nat) : (a : Int).tmod (b : Int) = ((a % b : Nat) : Int) := by
  rw [Int.tmod_eq_emod_of_nonneg (by omega)]; simp
theorem tdiv_nat (a b : Nat) : (a : Int).tdiv (b : Int) = ((a / b : Nat) : Int) := by
  rw [Int.tdiv_eq_ediv_of_nonneg (by omega)]; simp
theorem rdr_next {w : World} {g P n c : Nat} {A : Option Addr} (hg : w.heap[g]? = some (.cells #[.slice A n c, .int .i64 P] 66 (0, 0))) (hn : n ≤ 2000) (hR : RdB w g A n) :
    RdrAt (w.setCell ⟨g, 1, none⟩ (.int .i64 (P + 1))) g (P + 1) ∧ w.grownBy (w.setCell ⟨g, 1, none⟩ (.int .i64 (P + 1))) (some g) := by
  refine ⟨⟨A, n, c, ?_, hn, hR.below (B' := g) ((Below.refl _ _).setCell (p := ⟨g, 1, none⟩) (Nat.le_refl _) _) (Nat.le_refl _)⟩, ?_⟩
  · rw [heap_setCell_same w g 1 _ _ _ hg]
    rfl
  · exact ⟨rfl, rfl, rfl, by simp, fun k hk hne => Below.heap_setCell w ⟨g, 1, none⟩ _ k (fun e => hne (by rw [e]))⟩
theorem grown_of_below {w w1 : World} (hb : Below w.heap.size w w1) (row : Option Nat) : w.grownBy w1 row := ⟨hb.os, hb.tape, hb.output, hb.size, fun k hk _ => hb.block k hk⟩
set_option maxHeartbeats 4000000 in
theorem pick_any (g P : Nat) (m : Int) (w : World) (hP : P < 1000000) (hm2 : m < 1000000) (hr : RdrAt w g P) :
    Calls Try.prog 60 #[.pointer (some ⟨g, 0, none⟩), .int .i64 m] w fun e w' => (∃ x : Int, e = .returned (.int .i64 x) ∧ 0 ≤ x ∧ (1 ≤ m → x < m)) ∧ RdrAt w' g (P + 1) ∧ w.grownBy w' (some g) := by
  obtain ⟨A, n, c, hg, hn, hR⟩ := hr
  have HX := Lib.hid (rdr_next hg hn hR)
  have hz := lt_of_block hg
  have hc0 : w.cell? ⟨g, 0, none⟩ = some (.slice A n c) := by rw [cell_of_row w g 0 _ _ (0, 0) hg]; rfl
  have hc1 : w.cell? ⟨g, 1, none⟩ = some (.int .i64 P) := by rw [cell_of_row w g 1 _ _ (0, 0) hg]; rfl
  have hf0 := frozen_of_row w g 0 _ _ hg
  have hf1 := frozen_of_row w g 1 _ _ hg
  clear hg
  by_cases hm : m < 1
  · clear hR
    go_enter Try.func60, Try.ntmps60
    go_wp2
    go_ret
    exact ⟨⟨0, rfl, Int.le_refl _, by first | omega | (intro _; omega)⟩, HX.out.1, HX.out.2⟩
  · by_cases hn0 : n = 0
    · subst hn0
      clear hR
      go_enter Try.func60, Try.ntmps60
      go_wp2
      go_ret
      exact ⟨⟨0, rfl, Int.le_refl _, by first | omega | (intro _; omega)⟩, HX.out.1, HX.out.2⟩
    · obtain ⟨b, off, rfl, hbg, hcell⟩ := hR (by omega)
      have hne : b ≠ g := by omega
      by_cases hPn : P < n
      · obtain ⟨x, hx, x0, x1⟩ := hcell P hPn
        clear hcell
        have hx' : (w.setCell ⟨g, 1, none⟩ (.int .i64 (P + 1))).cell? ⟨b, off + P, none⟩ = some (.int .u8 x) := by
          rw [World.cell?_of_block (Below.heap_setCell w ⟨g, 1, none⟩ _ b (by show b ≠ g; omega))]; exact hx
        go_enter Try.func60, Try.ntmps60
        go_wp2
        go_ret
        exact ⟨⟨_, rfl, Int.emod_nonneg _ (by omega), by first | exact Int.emod_lt_of_pos _ (by omega) | exact fun _ => Int.emod_lt_of_pos _ (by omega)⟩, HX.out.1, HX.out.2⟩
      · obtain ⟨x, hx, x0, x1⟩ := hcell (P % n) (Nat.mod_lt _ (by omega))
        obtain ⟨y, hy, y0, y1⟩ := hcell ((P * 7 + 3) % n) (Nat.mod_lt _ (by omega))
        have hq1 := Nat.mod_lt P (show 0 < n by omega)
        have hq2 := Nat.mod_lt (P * 7 + 3) (show 0 < n by omega)
        have hq3 := Nat.div_le_self P n
        have hx' : (w.setCell ⟨g, 1, none⟩ (.int .i64 (P + 1))).cell? ⟨b, off + P % n, none⟩ = some (.int .u8 x) := by
          rw [World.cell?_of_block (Below.heap_setCell w ⟨g, 1, none⟩ _ b (by show b ≠ g; omega))]; exact hx
        have hy' : (w.setCell ⟨g, 1, none⟩ (.int .i64 (P + 1))).cell? ⟨b, off + (P * 7 + 3) % n, none⟩ = some (.int .u8 y) := by
          rw [World.cell?_of_block (Below.heap_setCell w ⟨g, 1, none⟩ _ b (by show b ≠ g; omega))]; exact hy
        have t1 := tmod_nat P n
        have t2 : ((P : Int) * 7 + 3).tmod (n : Int) = (((P * 7 + 3) % n : Nat) : Int) := by rw [← tmod_nat]; simp
        have t3 := tdiv_nat P n
        have t1' : (P : Int) % (n : Int) = ((P % n : Nat) : Int) := by simp
        have t2' : ((P : Int) * 7 + 3) % (n : Int) = (((P * 7 + 3) % n : Nat) : Int) := by simp
        have t3' : (P : Int) / (n : Int) = ((P / n : Nat) : Int) := by simp
        generalize hq4 : P % n = r1 at *
        generalize hq5 : (P * 7 + 3) % n = r2 at *
        generalize hq6 : P / n = r3 at *
        clear hcell hq4 hq5 hq6
        have hbz : b < w.heap.size := by omega
        go_enter Try.func60, Try.ntmps60
        go_wp2_with fail
        ((first | (with_reducible refine wp_region_from (by with_reducible assumption) follows (by kernel_rfl) ?_) | (refine wp_region_aft follows (by kernel_rfl) ?_)); (repeat (go_big_quiet_step (fail))); refine wpQuiet_nil ?_; intro _ hw'; obtain ⟨⟨w1, hb⟩, rfl⟩ := hw'; (try dsimp only); first | (replace hb := Below.via hb (by with_reducible assumption); (try clear hbc hbf hbz); obtain ⟨hbc, hbf, hbz⟩ := bcell hb) | (obtain ⟨hbc, hbf, hbz⟩ := bcell hb))
        go_wp2
        go_ret
        exact ⟨⟨_, rfl, Int.tmod_nonneg _ (bits_xor_pos _ _ (by omega) (by omega)), by first | exact Int.tmod_lt_of_pos _ (by omega) | exact fun _ => Int.tmod_lt_of_pos _ (by omega)⟩, HX.out.1.on hb (by simp; omega), HX.out.2.trans (grown_of_below hb _)⟩
set_option maxHeartbeats 1000000 in
theorem one_any (g P : Nat) (A : Option Addr) (c : Nat) (l : List Int) (w : World) (hP : P < 1000000) (hl : l.length < 1000000) (h1 : 1 ≤ l.length) (hr : RdrAt w g P) (hR : RdI w w.heap.size A l) (hne : ∀ b off, A = some ⟨b, off, none⟩ → b ≠ g) :
    Calls Try.prog 69 #[.pointer (some ⟨g, 0, none⟩), .slice A l.length c] w fun e w' => (∃ x : Int, e = .returned (.int .i64 x) ∧ x ∈ l) ∧ RdrAt w' g (P + 1) ∧ w.grownBy w' (some g) := by
  go_enter Try.func69, Try.ntmps69
  go_wp2_with fail
  refine (pick_any g P l.length _ hP (by omega) hr).mono ?_
  rintro e w2 ⟨⟨x, rfl, x0, x1⟩, hr2, hg2⟩
  obtain ⟨k, rfl⟩ : ∃ k : Nat, x = k := ⟨x.toNat, by omega⟩
  have hk : k < l.length := by have := x1 (by omega); omega
  obtain ⟨b, off, rfl, hb, h0⟩ := hR.at_ hk
  have h0' : w2.cell? ⟨b, off + k, none⟩ = some (.int .i64 l[k]) := (World.cell?_of_block (hg2.block b hb (by simpa using hne b off rfl))).trans h0
  clear x0 x1 h0
  go_wp2
  go_ret
  exact ⟨⟨l[k], rfl, List.getElem_mem hk⟩, hr2, hg2⟩
section
variable {w w1 w2 : World} {row : Option Nat} {g P : Nat}
theorem gr_al (h : w.grownBy w1 row) (o : Obj) : w.grownBy (w1.alloc o) row := h.trans (World.grownBy_alloc w1 o row)
theorem gr_st (h : w.grownBy w1 row) (p : Addr) (u : Value) (hp : w.heap.size ≤ p.block) : w.grownBy (w1.setCell p u) row :=
  ⟨h.os, h.tape, h.output, by have := h.size; simpa using this, fun k hk hne => (Below.heap_setCell w1 p u k (by omega)).trans (h.block k hk hne)⟩
theorem gr_dr (h : w.grownBy w1 row) : w.grownBy w1.drew row := h.trans ⟨rfl, rfl, rfl, Nat.le_refl _, fun _ _ _ => rfl⟩
theorem gr_be (h : w.grownBy w1 row) (hb : Below w1.heap.size w1 w2) : w.grownBy w2 row := h.trans (grown_of_below hb row)
theorem RdrAt.al (h : RdrAt w g P) (o : Obj) : RdrAt (w.alloc o) g P := h.on (Below.al (Below.refl _ _) o) h.lt
theorem RdrAt.be (h : RdrAt w g P) (hb : Below w.heap.size w w1) : RdrAt w1 g P := h.on hb h.lt
theorem RdrAt.st (h : RdrAt w g P) (p : Addr) (u : Value) (hp : g < p.block) : RdrAt (w.setCell p u) g P := h.on ((Below.refl (g + 1) w).setCell (p := p) (by omega) u) (Nat.lt_succ_self _)
/-- a literal list of numbers -/
theorem lit_rd (w : World) (E : TypeId) (l : List Int) : RdI (w.alloc (.cells (cellsI l).toArray E)) (w.alloc (.cells (cellsI l).toArray E)).heap.size (some ⟨w.heap.size, 0, none⟩) l := fun _ => by
  refine ⟨w.heap.size, 0, rfl, by simp, fun k hk => ?_⟩
  rw [World.cell?_alloc_new]
  simp [cellsI, hk]
end
theorem gcell {w w1 : World} {g : Nat} (hg : w.grownBy w1 (some g)) : (∀ b o, b < w.heap.size → b ≠ g → w1.cell? ⟨b, o, none⟩ = w.cell? ⟨b, o, none⟩) ∧ (∀ b o, b < w.heap.size → b ≠ g → w1.frozen? ⟨b, o, none⟩ = w.frozen? ⟨b, o, none⟩) ∧ (∀ b, b < w.heap.size → (b < w1.heap.size) = True) :=
  ⟨fun b o h hne => World.cell?_of_block (hg.block b h (by simpa using hne)), fun b o h hne => World.frozen?_of_block (hg.block b h (by simpa using hne)), fun b h => by have := hg.size; simp; omega⟩
/-- A struct of three numbers in a block of its own. -/
def Bx3 (w : World) (b : Nat) (E : TypeId) (x y z : Int) : Prop := w.heap[b]? = some (.cells #[.int .i64 x, .int .i64 y, .int .i64 z] E (0, 0))
section
variable {w w1 : World} {b g : Nat} {E : TypeId} {x y z : Int}
theorem Bx3.at_ (h : Bx3 w b E x y z) : b < w.heap.size ∧ w.cell? ⟨b, 0, none⟩ = some (.int .i64 x) ∧ w.cell? ⟨b, 1, none⟩ = some (.int .i64 y) ∧ w.cell? ⟨b, 2, none⟩ = some (.int .i64 z) ∧ w.frozen? ⟨b, 0, none⟩ = false ∧ w.frozen? ⟨b, 1, none⟩ = false ∧ w.frozen? ⟨b, 2, none⟩ = false := by
  have h' : w.heap[b]? = some (.cells #[.int .i64 x, .int .i64 y, .int .i64 z] E (0, 0)) := h
  refine ⟨lt_of_block h', ?_, ?_, ?_, frozen_of_row w b 0 _ _ h', frozen_of_row w b 1 _ _ h', frozen_of_row w b 2 _ _ h'⟩
  · rw [cell_of_row w b 0 _ _ (0, 0) h']; rfl
  · rw [cell_of_row w b 1 _ _ (0, 0) h']; rfl
  · rw [cell_of_row w b 2 _ _ (0, 0) h']; rfl
theorem Bx3.made (w : World) (E : TypeId) (x y z : Int) : Bx3 (w.alloc (.cells #[.int .i64 x, .int .i64 y, .int .i64 z] E)) w.heap.size E x y z := by
  unfold Bx3; rw [heap_alloc_new]
theorem Bx3.gr (h : Bx3 w b E x y z) (hg : w.grownBy w1 (some g)) (hne : b ≠ g) : Bx3 w1 b E x y z := (hg.block b (lt_of_block h) (by simpa using hne)).trans h
theorem Bx3.be (h : Bx3 w b E x y z) (hb : Below w.heap.size w w1) : Bx3 w1 b E x y z := (hb.block b (lt_of_block h)).trans h
theorem Bx3.al (h : Bx3 w b E x y z) (o : Obj) : Bx3 (w.alloc o) b E x y z := (Below.heap_alloc w o b (lt_of_block h)).trans h
theorem Bx3.far (h : Bx3 w b E x y z) (p : Addr) (u : Value) (hne : b ≠ p.block) : Bx3 (w.setCell p u) b E x y z := (Below.heap_setCell w p u b hne).trans h
theorem Bx3.set0 (h : Bx3 w b E x y z) (v : Int) : Bx3 (w.setCell ⟨b, 0, none⟩ (.int .i64 v)) b E v y z := by
  unfold Bx3; rw [heap_setCell_same w b 0 _ _ _ h]; rfl
theorem Bx3.set1 (h : Bx3 w b E x y z) (v : Int) : Bx3 (w.setCell ⟨b, 1, none⟩ (.int .i64 v)) b E x v z := by
  unfold Bx3; rw [heap_setCell_same w b 1 _ _ _ h]; rfl
theorem Bx3.set2 (h : Bx3 w b E x y z) (v : Int) : Bx3 (w.setCell ⟨b, 2, none⟩ (.int .i64 v)) b E x y v := by
  unfold Bx3; rw [heap_setCell_same w b 2 _ _ _ h]; rfl
end
set_option maxHeartbeats 1000000 in
theorem anOp_any (g P : Nat) (w : World) (hP : P < 900000) (hr : RdrAt w g P) :
    Calls Try.prog 59 #[.pointer (some ⟨g, 0, none⟩)] w fun e w' => (∃ a b c : Int, e = .returned (.agg #[.int .i64 a, .int .i64 b, .int .i64 c])) ∧ (∃ P', P' ≤ P + 6 ∧ RdrAt w' g P') ∧ w.grownBy w' (some g) := by
  have hz := hr.lt
  have hne0 : w.heap.size ≠ g := by omega
  have BR0 := Lib.hid (Bx3.made w 24 0 0 0)
  go_enter Try.func59, Try.ntmps59
  go_wp2_with fail
  refine (pick_any g P 4 _ (by omega) (by omega) (hr.al _)).mono ?_
  rintro e w1 ⟨⟨x1, rfl, _, _⟩, hr1, hg1⟩
  have BR1 := Lib.hid (BR0.out.gr hg1 hne0); clear BR0
  have GW1 := Lib.hid (show w.grownBy w1 (some g) by (repeat' (first | (with_reducible exact World.grownBy.refl _ _) | (with_reducible assumption) | (with_reducible refine gr_al ?_ _) | (with_reducible refine gr_st ?_ _ _ ?_) | (with_reducible refine gr_dr ?_) | (with_reducible refine World.grownBy.trans ?_ (by with_reducible assumption)) | (with_reducible refine gr_be ?_ (by with_reducible assumption)) | (with_reducible exact Nat.le_refl _) | (simp; done) | (simp; omega)))); clear hg1
  go_wp2_with fail
  refine (one_any g (P + 1) _ _ [0, 1, 1, 2, 3] _ (by omega) (by simp) (by simp) (hr1.al _) (lit_rd _ _ _) (by rintro b off ⟨⟩; have := hr1.lt; omega)).mono ?_
  rintro e w2 ⟨⟨x2, rfl, hx2⟩, hr2, hg2⟩
  have BR2 := Lib.hid ((BR1.out.al _).gr hg2 hne0); clear BR1
  have GW2 := Lib.hid (show w.grownBy w2 (some g) by have h := GW1.out; (repeat' (first | (with_reducible exact World.grownBy.refl _ _) | (with_reducible assumption) | (with_reducible refine gr_al ?_ _) | (with_reducible refine gr_st ?_ _ _ ?_) | (with_reducible refine gr_dr ?_) | (with_reducible refine World.grownBy.trans ?_ (by with_reducible assumption)) | (with_reducible refine gr_be ?_ (by with_reducible assumption)) | (with_reducible exact Nat.le_refl _) | (simp; done) | (simp; omega)))); clear GW1 hg2
  go_wp2_with fail
  refine (pick_any g (P + 1 + 1) 3 _ (by omega) (by omega) hr2).mono ?_
  rintro e w3 ⟨⟨x3, rfl, _, _⟩, hr3, hg3⟩
  have BR3 := Lib.hid (BR2.out.gr hg3 hne0); clear BR2
  have GW3 := Lib.hid (show w.grownBy w3 (some g) by have h := GW2.out; (repeat' (first | (with_reducible exact World.grownBy.refl _ _) | (with_reducible assumption) | (with_reducible refine gr_al ?_ _) | (with_reducible refine gr_st ?_ _ _ ?_) | (with_reducible refine gr_dr ?_) | (with_reducible refine World.grownBy.trans ?_ (by with_reducible assumption)) | (with_reducible refine gr_be ?_ (by with_reducible assumption)) | (with_reducible exact Nat.le_refl _) | (simp; done) | (simp; omega)))); clear GW2 hg3
  have hne3 : w3.heap.size ≠ g := by have := hr3.lt; omega
  have hnz : w.heap.size ≠ w3.heap.size := by have := BR3.out.at_.1; omega
  have hnz' : w3.heap.size ≠ w.heap.size := fun e => hnz e.symm
  have BB3 := Lib.hid (Bx3.made w3 24 x1 x2 x3)
  have BR4 := Lib.hid (BR3.out.al (.cells #[.int .i64 x1, .int .i64 x2, .int .i64 x3] 24)); clear BR3
  have GW4 := Lib.hid (show w.grownBy (w3.alloc (.cells #[.int .i64 x1, .int .i64 x2, .int .i64 x3] 24)) (some g) by have h := GW3.out; (repeat' (first | (with_reducible exact World.grownBy.refl _ _) | (with_reducible assumption) | (with_reducible refine gr_al ?_ _) | (with_reducible refine gr_st ?_ _ _ ?_) | (with_reducible refine gr_dr ?_) | (with_reducible refine World.grownBy.trans ?_ (by with_reducible assumption)) | (with_reducible refine gr_be ?_ (by with_reducible assumption)) | (with_reducible exact Nat.le_refl _) | (simp; done) | (simp; omega))))
  have hle := GW3.out.size
  clear GW3
  have hr4 := hr3.al (.cells #[.int .i64 x1, .int .i64 x2, .int .i64 x3] 24)
  clear hr1 hr2 hr3 hr
  cases he : endB ⟨x1, x2, x3⟩
  · go_wp2_with fail
    refine (spec_ends_any x1 x2 x3 _).mono ?_
    rintro e w4 ⟨rfl, hb4⟩
    rw [he]
    have hr5 := hr4.be hb4
    have BR5 := Lib.hid (BR4.out.be hb4)
    have BB5 := Lib.hid (BB3.out.be hb4)
    have GW5 := Lib.hid (show w.grownBy w4 (some g) by have h := GW4.out; (repeat' (first | (with_reducible exact World.grownBy.refl _ _) | (with_reducible assumption) | (with_reducible refine gr_al ?_ _) | (with_reducible refine gr_st ?_ _ _ ?_) | (with_reducible refine gr_dr ?_) | (with_reducible refine World.grownBy.trans ?_ (by with_reducible assumption)) | (with_reducible refine gr_be ?_ (by with_reducible assumption)) | (with_reducible exact Nat.le_refl _) | (simp; done) | (simp; omega)))); clear hb4
    obtain ⟨c0, c1, c2, c3, c4, c5, c6⟩ := BB5.out.at_
    go_wp2_with fail
    refine (pick_any g (P + 1 + 1 + 1) 16 _ (by omega) (by omega) hr5).mono ?_
    rintro e w7 ⟨⟨x7, rfl, _, _⟩, hr7, hg7⟩
    have BR7 := Lib.hid (BR5.out.gr hg7 hne0)
    have BB7 := Lib.hid (BB5.out.gr hg7 hne3)
    have GW7 := Lib.hid (show w.grownBy w7 (some g) by have h := GW5.out; (repeat' (first | (with_reducible exact World.grownBy.refl _ _) | (with_reducible assumption) | (with_reducible refine gr_al ?_ _) | (with_reducible refine gr_st ?_ _ _ ?_) | (with_reducible refine gr_dr ?_) | (with_reducible refine World.grownBy.trans ?_ (by with_reducible assumption)) | (with_reducible refine gr_be ?_ (by with_reducible assumption)) | (with_reducible exact Nat.le_refl _) | (simp; done) | (simp; omega)))); clear hg7
    obtain ⟨a0, a1, a2, a3, a4, a5, a6⟩ := BR7.out.at_
    obtain ⟨b0, b1, b2, b3, b4, b5, b6⟩ := BB7.out.at_
    by_cases h7 : x7 = 0
    · subst h7
      go_wp2_with fail
      refine (one_any g (P + 1 + 1 + 1 + 1) _ _ [4, -1] _ (by omega) (by simp) (by simp) (hr7.al _) (lit_rd _ _ _) (by rintro b off ⟨⟩; have := hr7.lt; omega)).mono ?_
      rintro e w8 ⟨⟨x8, rfl, hx8⟩, hr8, hg8⟩
      clear a0 a1 a2 a3 a4 a5 a6 b0 b1 b2 b3 b4 b5 b6
      have BR8 := Lib.hid ((BR7.out.al _).gr hg8 hne0)
      have BB8 := Lib.hid ((BB7.out.al _).gr hg8 hne3)
      have GW8 := Lib.hid (show w.grownBy w8 (some g) by have h := GW7.out; (repeat' (first | (with_reducible exact World.grownBy.refl _ _) | (with_reducible assumption) | (with_reducible refine gr_al ?_ _) | (with_reducible refine gr_st ?_ _ _ ?_) | (with_reducible refine gr_dr ?_) | (with_reducible refine World.grownBy.trans ?_ (by with_reducible assumption)) | (with_reducible refine gr_be ?_ (by with_reducible assumption)) | (with_reducible exact Nat.le_refl _) | (simp; done) | (simp; omega)))); clear hg8
      obtain ⟨a0, a1, a2, a3, a4, a5, a6⟩ := BR8.out.at_
      obtain ⟨b0, b1, b2, b3, b4, b5, b6⟩ := BB8.out.at_
      have HB := BR8.out.far ⟨w3.heap.size, 1, none⟩ (.int .i64 x8) hnz
      have e0 := (HB.set0 x1).at_.2.1
      have e1 := ((HB.set0 x1).set1 x8).at_.2.2.1
      have e2 := (((HB.set0 x1).set1 x8).set2 x3).at_.2.2.2.1
      clear HB
      go_wp2
      (try simp only [Exit.inBlock, Exit.then])
      refine bodyPost_ret (by simp [results, Try.results59, go_sem, e0, e1, e2]; try rfl) rfl ?_
      exact ⟨⟨_, _, _, rfl⟩, ⟨_, by omega, (((hr8.st _ _ (by simp; omega)).st _ _ (by simp; omega)).st _ _ (by simp; omega)).st _ _ (by simp; omega)⟩, by have h := GW8.out; (repeat' (first | (with_reducible exact World.grownBy.refl _ _) | (with_reducible assumption) | (with_reducible refine gr_al ?_ _) | (with_reducible refine gr_st ?_ _ _ ?_) | (with_reducible refine gr_dr ?_) | (with_reducible refine World.grownBy.trans ?_ (by with_reducible assumption)) | (with_reducible refine gr_be ?_ (by with_reducible assumption)) | (with_reducible exact Nat.le_refl _) | (simp; done) | (simp; omega)))⟩
    · have e0 := (BR7.out.set0 x1).at_.2.1
      have e1 := ((BR7.out.set0 x1).set1 x2).at_.2.2.1
      have e2 := (((BR7.out.set0 x1).set1 x2).set2 x3).at_.2.2.2.1
      go_wp2_with fail
      (try simp only [Exit.inBlock, Exit.then])
      refine bodyPost_ret (by simp [results, Try.results59, go_sem, e0, e1, e2]; try rfl) rfl ?_
      exact ⟨⟨_, _, _, rfl⟩, ⟨_, by omega, ((hr7.st _ _ (by simp; omega)).st _ _ (by simp; omega)).st _ _ (by simp; omega)⟩, by have h := GW7.out; (repeat' (first | (with_reducible exact World.grownBy.refl _ _) | (with_reducible assumption) | (with_reducible refine gr_al ?_ _) | (with_reducible refine gr_st ?_ _ _ ?_) | (with_reducible refine gr_dr ?_) | (with_reducible refine World.grownBy.trans ?_ (by with_reducible assumption)) | (with_reducible refine gr_be ?_ (by with_reducible assumption)) | (with_reducible exact Nat.le_refl _) | (simp; done) | (simp; omega)))⟩
  · go_wp2_with fail
    refine (spec_ends_any x1 x2 x3 _).mono ?_
    rintro e w4 ⟨rfl, hb4⟩
    rw [he]
    have hr5 := hr4.be hb4
    have BR5 := Lib.hid (BR4.out.be hb4)
    have BB5 := Lib.hid (BB3.out.be hb4)
    have GW5 := Lib.hid (show w.grownBy w4 (some g) by have h := GW4.out; (repeat' (first | (with_reducible exact World.grownBy.refl _ _) | (with_reducible assumption) | (with_reducible refine gr_al ?_ _) | (with_reducible refine gr_st ?_ _ _ ?_) | (with_reducible refine gr_dr ?_) | (with_reducible refine World.grownBy.trans ?_ (by with_reducible assumption)) | (with_reducible refine gr_be ?_ (by with_reducible assumption)) | (with_reducible exact Nat.le_refl _) | (simp; done) | (simp; omega)))); clear hb4
    obtain ⟨c0, c1, c2, c3, c4, c5, c6⟩ := BB5.out.at_
    go_wp2_with fail
    refine (pick_any g (P + 1 + 1 + 1) 8 _ (by omega) (by omega) hr5).mono ?_
    rintro e w5 ⟨⟨x5, rfl, _, _⟩, hr6, hg6⟩
    have BR6 := Lib.hid (BR5.out.gr hg6 hne0)
    have BB6 := Lib.hid (BB5.out.gr hg6 hne3)
    have GW6 := Lib.hid (show w.grownBy w5 (some g) by have h := GW5.out; (repeat' (first | (with_reducible exact World.grownBy.refl _ _) | (with_reducible assumption) | (with_reducible refine gr_al ?_ _) | (with_reducible refine gr_st ?_ _ _ ?_) | (with_reducible refine gr_dr ?_) | (with_reducible refine World.grownBy.trans ?_ (by with_reducible assumption)) | (with_reducible refine gr_be ?_ (by with_reducible assumption)) | (with_reducible exact Nat.le_refl _) | (simp; done) | (simp; omega)))); clear hg6 c0 c1 c2 c3 c4 c5 c6
    obtain ⟨c0, c1, c2, c3, c4, c5, c6⟩ := BB6.out.at_
    by_cases h6 : 0 < x5
    · have BRA := Lib.hid (BR6.out.far ⟨w3.heap.size, 2, none⟩ (.int .i64 0) hnz)
      have BBA := Lib.hid (BB6.out.set2 0)
      have GWA := Lib.hid (show w.grownBy (w5.setCell ⟨w3.heap.size, 2, none⟩ (.int .i64 0)) (some g) by have h := GW6.out; (repeat' (first | (with_reducible exact World.grownBy.refl _ _) | (with_reducible assumption) | (with_reducible refine gr_al ?_ _) | (with_reducible refine gr_st ?_ _ _ ?_) | (with_reducible refine gr_dr ?_) | (with_reducible refine World.grownBy.trans ?_ (by with_reducible assumption)) | (with_reducible refine gr_be ?_ (by with_reducible assumption)) | (with_reducible exact Nat.le_refl _) | (simp; done) | (simp; omega))))
      have hrA := hr6.st ⟨w3.heap.size, 2, none⟩ (.int .i64 0) (by have := hr5.lt; simp; omega)
      go_wp2_with fail
      refine (pick_any g (P + 1 + 1 + 1 + 1) 16 _ (by omega) (by omega) hrA).mono ?_
      rintro e w7 ⟨⟨x7, rfl, _, _⟩, hr7, hg7⟩
      have BR7 := Lib.hid (BRA.out.gr hg7 hne0)
      have BB7 := Lib.hid (BBA.out.gr hg7 hne3)
      have GW7 := Lib.hid (show w.grownBy w7 (some g) by have h := GWA.out; (repeat' (first | (with_reducible exact World.grownBy.refl _ _) | (with_reducible assumption) | (with_reducible refine gr_al ?_ _) | (with_reducible refine gr_st ?_ _ _ ?_) | (with_reducible refine gr_dr ?_) | (with_reducible refine World.grownBy.trans ?_ (by with_reducible assumption)) | (with_reducible refine gr_be ?_ (by with_reducible assumption)) | (with_reducible exact Nat.le_refl _) | (simp; done) | (simp; omega)))); clear hg7
      obtain ⟨a0, a1, a2, a3, a4, a5, a6⟩ := BR7.out.at_
      obtain ⟨b0, b1, b2, b3, b4, b5, b6⟩ := BB7.out.at_
      by_cases h7 : x7 = 0
      · subst h7
        go_wp2_with fail
        refine (one_any g (P + 1 + 1 + 1 + 1 + 1) _ _ [4, -1] _ (by omega) (by simp) (by simp) (hr7.al _) (lit_rd _ _ _) (by rintro b off ⟨⟩; have := hr7.lt; omega)).mono ?_
        rintro e w8 ⟨⟨x8, rfl, hx8⟩, hr8, hg8⟩
        clear a0 a1 a2 a3 a4 a5 a6 b0 b1 b2 b3 b4 b5 b6
        have BR8 := Lib.hid ((BR7.out.al _).gr hg8 hne0)
        have BB8 := Lib.hid ((BB7.out.al _).gr hg8 hne3)
        have GW8 := Lib.hid (show w.grownBy w8 (some g) by have h := GW7.out; (repeat' (first | (with_reducible exact World.grownBy.refl _ _) | (with_reducible assumption) | (with_reducible refine gr_al ?_ _) | (with_reducible refine gr_st ?_ _ _ ?_) | (with_reducible refine gr_dr ?_) | (with_reducible refine World.grownBy.trans ?_ (by with_reducible assumption)) | (with_reducible refine gr_be ?_ (by with_reducible assumption)) | (with_reducible exact Nat.le_refl _) | (simp; done) | (simp; omega)))); clear hg8
        obtain ⟨a0, a1, a2, a3, a4, a5, a6⟩ := BR8.out.at_
        obtain ⟨b0, b1, b2, b3, b4, b5, b6⟩ := BB8.out.at_
        have HB := BR8.out.far ⟨w3.heap.size, 1, none⟩ (.int .i64 x8) hnz
        have e0 := (HB.set0 x1).at_.2.1
        have e1 := ((HB.set0 x1).set1 x8).at_.2.2.1
        have e2 := (((HB.set0 x1).set1 x8).set2 0).at_.2.2.2.1
        clear HB
        go_wp2
        (try simp only [Exit.inBlock, Exit.then])
        refine bodyPost_ret (by simp [results, Try.results59, go_sem, e0, e1, e2]; try rfl) rfl ?_
        exact ⟨⟨_, _, _, rfl⟩, ⟨_, by omega, (((hr8.st _ _ (by simp; omega)).st _ _ (by simp; omega)).st _ _ (by simp; omega)).st _ _ (by simp; omega)⟩, by have h := GW8.out; (repeat' (first | (with_reducible exact World.grownBy.refl _ _) | (with_reducible assumption) | (with_reducible refine gr_al ?_ _) | (with_reducible refine gr_st ?_ _ _ ?_) | (with_reducible refine gr_dr ?_) | (with_reducible refine World.grownBy.trans ?_ (by with_reducible assumption)) | (with_reducible refine gr_be ?_ (by with_reducible assumption)) | (with_reducible exact Nat.le_refl _) | (simp; done) | (simp; omega)))⟩
      · have e0 := (BR7.out.set0 x1).at_.2.1
        have e1 := ((BR7.out.set0 x1).set1 x2).at_.2.2.1
        have e2 := (((BR7.out.set0 x1).set1 x2).set2 0).at_.2.2.2.1
        go_wp2_with fail
        (try simp only [Exit.inBlock, Exit.then])
        refine bodyPost_ret (by simp [results, Try.results59, go_sem, e0, e1, e2]; try rfl) rfl ?_
        exact ⟨⟨_, _, _, rfl⟩, ⟨_, by omega, ((hr7.st _ _ (by simp; omega)).st _ _ (by simp; omega)).st _ _ (by simp; omega)⟩, by have h := GW7.out; (repeat' (first | (with_reducible exact World.grownBy.refl _ _) | (with_reducible assumption) | (with_reducible refine gr_al ?_ _) | (with_reducible refine gr_st ?_ _ _ ?_) | (with_reducible refine gr_dr ?_) | (with_reducible refine World.grownBy.trans ?_ (by with_reducible assumption)) | (with_reducible refine gr_be ?_ (by with_reducible assumption)) | (with_reducible exact Nat.le_refl _) | (simp; done) | (simp; omega)))⟩
    · skip
      go_wp2_with fail
      refine (pick_any g (P + 1 + 1 + 1 + 1) 16 _ (by omega) (by omega) hr6).mono ?_
      rintro e w7 ⟨⟨x7, rfl, _, _⟩, hr7, hg7⟩
      have BR7 := Lib.hid (BR6.out.gr hg7 hne0)
      have BB7 := Lib.hid (BB6.out.gr hg7 hne3)
      have GW7 := Lib.hid (show w.grownBy w7 (some g) by have h := GW6.out; (repeat' (first | (with_reducible exact World.grownBy.refl _ _) | (with_reducible assumption) | (with_reducible refine gr_al ?_ _) | (with_reducible refine gr_st ?_ _ _ ?_) | (with_reducible refine gr_dr ?_) | (with_reducible refine World.grownBy.trans ?_ (by with_reducible assumption)) | (with_reducible refine gr_be ?_ (by with_reducible assumption)) | (with_reducible exact Nat.le_refl _) | (simp; done) | (simp; omega)))); clear hg7
      obtain ⟨a0, a1, a2, a3, a4, a5, a6⟩ := BR7.out.at_
      obtain ⟨b0, b1, b2, b3, b4, b5, b6⟩ := BB7.out.at_
      by_cases h7 : x7 = 0
      · subst h7
        go_wp2_with fail
        refine (one_any g (P + 1 + 1 + 1 + 1 + 1) _ _ [4, -1] _ (by omega) (by simp) (by simp) (hr7.al _) (lit_rd _ _ _) (by rintro b off ⟨⟩; have := hr7.lt; omega)).mono ?_
        rintro e w8 ⟨⟨x8, rfl, hx8⟩, hr8, hg8⟩
        clear a0 a1 a2 a3 a4 a5 a6 b0 b1 b2 b3 b4 b5 b6
        have BR8 := Lib.hid ((BR7.out.al _).gr hg8 hne0)
        have BB8 := Lib.hid ((BB7.out.al _).gr hg8 hne3)
        have GW8 := Lib.hid (show w.grownBy w8 (some g) by have h := GW7.out; (repeat' (first | (with_reducible exact World.grownBy.refl _ _) | (with_reducible assumption) | (with_reducible refine gr_al ?_ _) | (with_reducible refine gr_st ?_ _ _ ?_) | (with_reducible refine gr_dr ?_) | (with_reducible refine World.grownBy.trans ?_ (by with_reducible assumption)) | (with_reducible refine gr_be ?_ (by with_reducible assumption)) | (with_reducible exact Nat.le_refl _) | (simp; done) | (simp; omega)))); clear hg8
        obtain ⟨a0, a1, a2, a3, a4, a5, a6⟩ := BR8.out.at_
        obtain ⟨b0, b1, b2, b3, b4, b5, b6⟩ := BB8.out.at_
        have HB := BR8.out.far ⟨w3.heap.size, 1, none⟩ (.int .i64 x8) hnz
        have e0 := (HB.set0 x1).at_.2.1
        have e1 := ((HB.set0 x1).set1 x8).at_.2.2.1
        have e2 := (((HB.set0 x1).set1 x8).set2 x3).at_.2.2.2.1
        clear HB
        go_wp2
        (try simp only [Exit.inBlock, Exit.then])
        refine bodyPost_ret (by simp [results, Try.results59, go_sem, e0, e1, e2]; try rfl) rfl ?_
        exact ⟨⟨_, _, _, rfl⟩, ⟨_, by omega, (((hr8.st _ _ (by simp; omega)).st _ _ (by simp; omega)).st _ _ (by simp; omega)).st _ _ (by simp; omega)⟩, by have h := GW8.out; (repeat' (first | (with_reducible exact World.grownBy.refl _ _) | (with_reducible assumption) | (with_reducible refine gr_al ?_ _) | (with_reducible refine gr_st ?_ _ _ ?_) | (with_reducible refine gr_dr ?_) | (with_reducible refine World.grownBy.trans ?_ (by with_reducible assumption)) | (with_reducible refine gr_be ?_ (by with_reducible assumption)) | (with_reducible exact Nat.le_refl _) | (simp; done) | (simp; omega)))⟩
      · have e0 := (BR7.out.set0 x1).at_.2.1
        have e1 := ((BR7.out.set0 x1).set1 x2).at_.2.2.1
        have e2 := (((BR7.out.set0 x1).set1 x2).set2 x3).at_.2.2.2.1
        go_wp2_with fail
        (try simp only [Exit.inBlock, Exit.then])
        refine bodyPost_ret (by simp [results, Try.results59, go_sem, e0, e1, e2]; try rfl) rfl ?_
        exact ⟨⟨_, _, _, rfl⟩, ⟨_, by omega, ((hr7.st _ _ (by simp; omega)).st _ _ (by simp; omega)).st _ _ (by simp; omega)⟩, by have h := GW7.out; (repeat' (first | (with_reducible exact World.grownBy.refl _ _) | (with_reducible assumption) | (with_reducible refine gr_al ?_ _) | (with_reducible refine gr_st ?_ _ _ ?_) | (with_reducible refine gr_dr ?_) | (with_reducible refine World.grownBy.trans ?_ (by with_reducible assumption)) | (with_reducible refine gr_be ?_ (by with_reducible assumption)) | (with_reducible exact Nat.le_refl _) | (simp; done) | (simp; omega)))⟩
end Go.Proofs.Ytlcaadjlghbcpaa
