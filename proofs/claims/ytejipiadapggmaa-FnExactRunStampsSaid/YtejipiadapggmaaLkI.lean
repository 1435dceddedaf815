/- A schedule with locks: contract of the program's LocksOf. -/
import Derived.Test.YtejipiadapggmaaLkM
import Derived.Test.YtejipiadapggmaaBox
import Derived.Maps.AppendAt
namespace Go.Proofs.Ytejipiadapggmaa
set_option linter.unusedSimpArgs false
set_option linter.unusedVariables false
open Go.RowKit
theorem grown_of_b {w w1 : World} (hb : Below w.heap.size w w1) (row : Option Nat) : w.grownBy w1 row := ⟨hb.os, hb.tape, hb.output, hb.size, fun k hk _ => hb.block k hk⟩
theorem ag_grown {w w1 : World} {g n : Nat} {v : Value} (h : w.grownBy w1 (some g)) : w.grownBy (w1.setCell ⟨g, n, none⟩ v).drew (some g) :=
  h.trans ⟨rfl, rfl, rfl, by simp, fun k _ hne => Below.heap_setCell w1 ⟨g, n, none⟩ v k (fun e => hne (by rw [e]))⟩
set_option maxHeartbeats 1000000 in
theorem impl_take_gr (g n m : Nat) (kind : Int) (F : Int → Int → Int) (w : World) (hn : n < 4) (hm : m < 3) (hk : 0 ≤ kind) (hT : TabAt w g 96 F) :
    Calls Try.prog 52 #[.pointer (some ⟨g, 0, none⟩), .agg #[.int .i64 n, .int .i64 kind, .int .i64 m]] w fun e w' => (∃ v, e = .returned v) ∧ TabAt w' g 96 (takeF F n kind m) ∧ w.grownBy w' (some g) := by
  have hgs := hT.lt
  obtain ⟨hc, hf⟩ := hT.cell hn hm
  have hn4 : (n : Int) < 4 := by omega
  have hm3 : (m : Int) < 3 := by omega
  have hT1 : TabAt (w.alloc (.cells #[.int .i64 n, .int .i64 kind, .int .i64 m] 49)) g 96 F := hT.on (by (repeat' (first | (with_reducible exact Below.refl _ _) | (with_reducible assumption) | (with_reducible refine Below.al ?_ _) | (with_reducible refine Below.drew ?_) | (with_reducible refine Below.drN ?_ _) | (with_reducible refine Below.via (by with_reducible assumption) ?_) | (with_reducible refine Below.setc ?_ ?_ _) | (with_reducible exact Nat.le_refl _) | (simp; done) | (simp; omega))))
  clear hT
  have HT := Lib.hid hT1; clear hT1
  have hB0 : w.grownBy (w.alloc (.cells #[.int .i64 n, .int .i64 kind, .int .i64 m] 49)) (some g) := World.grownBy_alloc _ _ _
  have HB := Lib.hid hB0; clear hB0
  rcases Bool.eq_false_or_eq_true (kind == 0 || kind == 1) with e1 | e1
  · have E1 := Lib.hid e1
    have hk1 : kind ≤ 1 := by simp at e1; omega
    clear e1
    go_enter Try.func52, Try.ntmps52
    go_wp2_with fail
    refine (impl_takes_held _ _ _ _).mono ?_
    rintro e w1 ⟨rfl, hb1⟩
    rw [E1.out]
    have hbx := HB.out.trans (grown_of_b hb1 _)
    have hT1 := HT.out.on hb1
    obtain ⟨hbc, hbf, hbz⟩ := bcell hb1
    have HT1 := Lib.hid hT1
    have HBX := Lib.hid hbx
    clear hT1 HT hbx
    go_wp2_with fail
    go_region
    all_goals go_wp2
    all_goals go_end0
    all_goals
      exact ⟨⟨_, rfl⟩, (HT1.out.set_ hn hm (fun t x => by unfold takeF; rw [if_pos hk1])).drew, ag_grown HBX.out⟩
  · have E1 := Lib.hid e1
    have hk1 : ¬ kind ≤ 1 := by simp at e1; omega
    clear e1
    cases e2 : (kind == 2)
    · have hs : takeF F n kind m = F := by
        have h2 : kind ≠ 2 := by simpa using e2
        funext t x
        unfold takeF
        rw [if_neg hk1, if_neg h2, ite_self]
      rw [hs]
      clear hs
      go_enter Try.func52, Try.ntmps52
      go_wp2_with fail
      refine (impl_takes_held _ _ _ _).mono ?_
      rintro e w1 ⟨rfl, hb1⟩
      rw [E1.out]
      have hbx := HB.out.trans (grown_of_b hb1 _)
      have hT1 := HT.out.on hb1
      obtain ⟨hbc, hbf, hbz⟩ := bcell hb1
      have HT1 := Lib.hid hT1
      clear hT1 HT
      go_wp2
      go_end0
      exact ⟨⟨_, rfl⟩, HT1.out, hbx⟩
    · have h2 : kind = 2 := by simpa using e2
      subst h2
      clear e2
      go_enter Try.func52, Try.ntmps52
      go_wp2_with fail
      refine (impl_takes_held _ _ _ _).mono ?_
      rintro e w1 ⟨rfl, hb1⟩
      rw [show ((2 : Int) == 0 || (2 : Int) == 1) = false by decide]
      have hbx := HB.out.trans (grown_of_b hb1 _)
      have hT1 := HT.out.on hb1
      obtain ⟨hbc, hbf, hbz⟩ := bcell hb1
      have HT1 := Lib.hid hT1
      have HBX := Lib.hid hbx
      clear hT1 HT hbx
      go_wp2_with fail
      go_region
      all_goals go_wp2
      all_goals go_end0
      all_goals
        exact ⟨⟨_, rfl⟩, (HT1.out.set_ hn hm (fun t x => by unfold takeF; simp)).drew, ag_grown HBX.out⟩
/-- append of one struct: where the new slice lies. -/
theorem wpList_app_oa {P : Program} {ops : Array Oper} {rest : List Oper} {o : Oper} {a : Act} {Q : Exit → Act → World → Prop} (W : World) (T E : TypeId) (i : TypeInfo) (hgd : o.guard = none) (s x : Operand)
    (ho : o.op = .call { callee := .builtin .append, args := #[s, x], argTypes := #[T, T] })
    (ht : P.underlying T = some (.slice E)) (hi : P.info? E = some i) (hz : i.zero = some (.agg #[.int .i64 0, .int .i64 0, .int .i64 0])) (hsize : i.size = 3) (hby : i.bytes = 24)
    (base : Nat) (v : Value) (l : List O3) (hs : a.eval s = v) (hown : AppO W base E v l)
    (p : O3) (g : Nat) (hx : a.eval x = .slice (some ⟨g, 0, none⟩) 1 1) (hgW : g = W.heap.size) (hlen : l.length ≤ 4194304) (hbase : base ≤ W.heap.size)
    (h : ∀ A' c' w', AppO w' base E (.slice A' (l.length + 1) c') (l ++ [p]) → (W.alloc (.cells #[.int .i64 p.tx, .int .i64 p.kind, .int .i64 p.item] E)).grownBy w' v.ownBlock →
      ((Value.slice A' (l.length + 1) c').ownBlock = v.ownBlock ∨ ∃ k, (Value.slice A' (l.length + 1) c').ownBlock = some k ∧ W.heap.size ≤ k) → wpList P ops Q rest (a.put o.dst (.slice A' (l.length + 1) c')) w') :
    wpList P ops Q (o :: rest) a (W.alloc (.cells #[.int .i64 p.tx, .int .i64 p.kind, .int .i64 p.item] E)) := by
  subst hgW
  refine wpList_append_own_at _ hgd s x T ho base E i _ 3 24 ht hi hz hsize hby rfl (by decide) v l.length (cellsO l) hs (hown.alloc _) ⟨W.heap.size, 0, none⟩ 1 1 (cellsO [p]) hx rfl ?_ (cellsO_one _) ?_ ?_ ?_ ?_
  · intro j u hj
    rw [addr_add, Nat.zero_add, World.cell?_alloc_new]
    simpa [cellsO] using hj
  · unfold maxLen; omega
  · omega
  · simp; omega
  · intro v' w' h1 h2 _ h4
    obtain ⟨A', c', rfl, _⟩ := row_form h1
    refine h A' c' w' (by unfold AppO; rw [List.length_append, cellsO_append]; exact h1) h2 ?_
    rcases h4 with h4 | h4
    · exact .inl h4
    · exact .inr ⟨_, h4, by simp⟩
/-- The variables that the closure holds: the steps in block b3, the table's pointer in block b4, the table in block g. -/
structure LkAt (w : World) (B b3 b4 g : Nat) (A : Option Addr) (c : Nat) (out : List O3) : Prop where
  c3 : w.heap[b3]? = some (.cells #[.slice A out.length c] 26 (0, 0))
  c4 : w.heap[b4]? = some (.cells #[.pointer (some ⟨g, 0, none⟩)] 75 (0, 0))
  own : AppO w B 49 (.slice A out.length c) out
  tab : TabAt w g 96 (HF out)
  s3 : (Value.slice A out.length c).ownBlock ≠ some b3
  s4 : (Value.slice A out.length c).ownBlock ≠ some b4
  sg : (Value.slice A out.length c).ownBlock ≠ some g
  d : B ≤ b3 ∧ B ≤ b4 ∧ B ≤ g ∧ b3 ≠ b4 ∧ b3 ≠ g ∧ b4 ≠ g
/-- What has turned: the steps' variable, their row, the table. -/
structure LkTo (w w' : World) (B b3 g : Nat) (ob ob' : Option Nat) : Prop where
  below : Below B w w'
  far : ∀ k, k < w.heap.size → k ≠ b3 → k ≠ g → ob ≠ some k → w'.heap[k]? = w.heap[k]? ∧ ob' ≠ some k
theorem LkTo.trans {w w1 w2 : World} {B b3 g : Nat} {o0 o1 o2 : Option Nat} (h1 : LkTo w w1 B b3 g o0 o1) (h2 : LkTo w1 w2 B b3 g o1 o2) : LkTo w w2 B b3 g o0 o2 :=
  ⟨h1.below.trans h2.below, fun k hk e1 e2 e3 => by
    obtain ⟨a1, a2⟩ := h1.far k hk e1 e2 e3
    obtain ⟨c1, c2⟩ := h2.far k (Nat.lt_of_lt_of_le hk h1.below.size) e1 e2 a2
    exact ⟨c1.trans a1, c2⟩⟩
set_option maxRecDepth 100000 in
set_option maxHeartbeats 4000000 in
theorem impl_put_any (B b3 b4 g n m : Nat) (kind : Int) (A : Option Addr) (c : Nat) (out : List O3) (w : World) (hn : n < 4) (hm : m < 3) (hk : 0 ≤ kind) (hlen : out.length ≤ 100000) (hS : LkAt w B b3 b4 g A c out) :
    Calls Try.prog 54 #[.agg #[.int .i64 n, .int .i64 kind, .int .i64 m], .pointer (some ⟨b4, 0, none⟩), .pointer (some ⟨b3, 0, none⟩)] w fun e w' =>
      (∃ v, e = .returned v) ∧ ∃ A' c', LkAt w' B b3 b4 g A' c' (out ++ [⟨n, kind, m⟩]) ∧ LkTo w w' B b3 g (Value.slice A out.length c).ownBlock (Value.slice A' (out ++ [(⟨n, kind, m⟩ : O3)]).length c').ownBlock := by
  obtain ⟨d3, d4, dg, d34, d3g, d4g⟩ := hS.d
  obtain ⟨i0, hi0, hz0, hz1, hz2⟩ := info_parts info_S
  have hb3 := lt_of_block hS.c3
  have hb4 := lt_of_block hS.c4
  have hgl := hS.tab.lt
  have HS := Lib.hid hS; clear hS
  obtain ⟨W0, hW0⟩ : ∃ W0, W0 = w.alloc (.cells #[.int .i64 n, .int .i64 kind, .int .i64 m] 49) := ⟨_, rfl⟩
  have bx0 : Bx3 W0 w.heap.size 49 n kind m := by rw [hW0]; exact Bx3.made _ _ _ _ _
  have hbl : Below w.heap.size w W0 := by rw [hW0]; (repeat' (first | (with_reducible exact Below.refl _ _) | (with_reducible assumption) | (with_reducible refine Below.al ?_ _) | (with_reducible refine Below.drew ?_) | (with_reducible refine Below.drN ?_ _) | (with_reducible refine Below.via (by with_reducible assumption) ?_) | (with_reducible refine Below.setc ?_ ?_ _) | (with_reducible exact Nat.le_refl _) | (simp; done) | (simp; omega)))
  have hz0' : w.heap.size < W0.heap.size := by rw [hW0]; simp
  have y4 : w.cell? ⟨b4, 0, none⟩ = some (.pointer (some ⟨g, 0, none⟩)) := cell_of_row w b4 0 _ _ (0, 0) HS.out.c4
  have HT0 := Lib.hid (HS.out.tab.on hbl)
  have HBX := Lib.hid bx0
  have HBL := Lib.hid hbl
  clear bx0 hbl
  go_enter Try.func54, Try.ntmps54
  go_wp2_with fail
  rw [← hW0]
  clear hW0
  refine (impl_take_gr g n m kind _ _ hn hm hk HT0.out).mono ?_
  rintro e w1 ⟨⟨v1, rfl⟩, hT1, hg1⟩
  clear y4
  have hz1' := hg1.size
  obtain ⟨x0, x1, x2, x3, x4, x5, x6⟩ := (HBX.out.gr hg1 (by omega)).at_
  have k3 : w1.heap[b3]? = some (.cells #[.slice A out.length c] 26 (0, 0)) := (hg1.block b3 (by omega) (by simpa using d3g)).trans ((HBL.out.block b3 hb3).trans HS.out.c3)
  have k4 : w1.heap[b4]? = some (.cells #[.pointer (some ⟨g, 0, none⟩)] 75 (0, 0)) := (hg1.block b4 (by omega) (by simpa using d4g)).trans ((HBL.out.block b4 hb4).trans HS.out.c4)
  have o1 : AppO w1 B 49 (.slice A out.length c) out := World.ownsRow.kept (HS.out.own.on HBL.out) hg1 (.inr HS.out.sg)
  have y3 : w1.cell? ⟨b3, 0, none⟩ = some (.slice A out.length c) := cell_of_row w1 b3 0 _ _ (0, 0) k3
  have K3 := Lib.hid k3
  have K4 := Lib.hid k4
  have O1 := Lib.hid o1
  have T1 := Lib.hid hT1
  have G1 := Lib.hid hg1
  have hgl1 := T1.out.lt
  clear k3 k4 o1 hT1 hg1
  go_wp2_with (at_builtin; refine wpList_app_oa _ 26 49 i0 rfl _ _ rfl Try.underlying26 hi0 hz0 hz1 hz2 B _ _ rfl O1.out ⟨n, kind, m⟩ _ rfl (by first | rfl | simp) (by omega) (by omega) ?_; intro A9 c9 w9 hO9 hg9 hv9; have hsz9 := hg9.size; have k39 : w9.heap[b3]? = some (.cells #[.slice A out.length c] 26 (0, 0)) := (hg9.block b3 (by simp; omega) (fun e => HS.out.s3 e.symm)).trans ((Below.heap_alloc _ _ _ (by omega)).trans K3.out); have y9 := cell_of_row w9 b3 0 _ _ (0, 0) k39; have f9 := frozen_of_row w9 b3 0 _ _ k39; have K39 := Lib.hid k39; clear k39)
  go_end0
  have hnew : ∀ k, k < w.heap.size → (Value.slice A out.length c).ownBlock ≠ some k → (Value.slice A9 (out.length + 1) c9).ownBlock ≠ some k := fun k hk hne => by
    rcases hv9 with h | ⟨j, h, hj⟩
    · rw [h]; exact hne
    · rw [h]; simp; omega
  have hlen9 : (out ++ [(⟨n, kind, m⟩ : O3)]).length = out.length + 1 := by simp
  simp only [World.size_alloc] at hsz9
  have gs : w9.grownBy (w9.setCell ⟨b3, 0, none⟩ (.slice A9 (out.length + 1) c9)) (some b3) := ⟨rfl, rfl, rfl, by simp, fun k _ hne => Below.heap_setCell w9 ⟨b3, 0, none⟩ _ k (fun e => hne (by rw [e]))⟩
  refine ⟨⟨_, rfl⟩, A9, c9, ⟨?_, ?_, ?_, ?_, ?_, ?_, ?_, ⟨d3, d4, dg, d34, d3g, d4g⟩⟩, ⟨?_, ?_⟩⟩
  · rw [hlen9]; rw [heap_setCell_same w9 b3 0 _ _ _ K39.out]; rfl
  · exact (gs.block b4 (by omega) (by simp; omega)).trans ((hg9.block b4 (by simp; omega) (fun e => HS.out.s4 e.symm)).trans ((Below.heap_alloc _ _ _ (by omega)).trans K4.out))
  · rw [hlen9]; exact World.ownsRow.kept (by unfold AppO at hO9; rw [List.length_append] at hO9; rw [List.length_append]; exact hO9) gs (.inr (hnew b3 hb3 HS.out.s3))
  · rw [HF_app]; exact (gs.block g (by omega) (by simp; omega)).trans ((hg9.block g (by simp; omega) (fun e => HS.out.sg e.symm)).trans ((Below.heap_alloc _ _ _ (by omega)).trans T1.out))
  · rw [hlen9]; exact hnew b3 hb3 HS.out.s3
  · rw [hlen9]; exact hnew b4 hb4 HS.out.s4
  · rw [hlen9]; exact hnew g hgl HS.out.sg
  · have b1 : Below B w w1 := (HBL.out.mono (by omega)).grown G1.out (by omega) (fun k hk => by cases hk; exact dg)
    exact (((b1.alloc (by omega) _).grown hg9 (by simp; omega) (fun k hk => (O1.out.lt k hk).1))).grown gs (by omega) (fun k hk => by cases hk; exact d3)
  · intro k hk e3 eg eo
    refine ⟨?_, hnew k hk eo⟩
    exact (gs.block k (by omega) (by simpa using e3)).trans ((hg9.block k (by simp; omega) (fun e => eo e.symm)).trans ((Below.heap_alloc _ _ _ (by omega)).trans ((G1.out.block k (by omega) (by simpa using eg)).trans (HBL.out.block k hk))))
end Go.Proofs.Ytejipiadapggmaa
