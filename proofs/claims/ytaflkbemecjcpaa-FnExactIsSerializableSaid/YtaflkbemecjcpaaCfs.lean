/- All pairs of operations that conflict: the plain side, the pairs in memory, and the contracts of ConflictsOf, the reference's and the program's. -/
import Derived.Test.YtaflkbemecjcpaaLists
import Derived.Test.YtaflkbemecjcpaaPl
namespace Go.Proofs.Ytaflkbemecjcpaa
set_option linter.unusedSimpArgs false
set_option linter.unusedVariables false
open Go.RowKit

/-! ### The plain side -/
def cfAt (l : List O3) (i j : Nat) : Bool := if h : i < l.length ∧ j < l.length then conflB (l[i]'h.1) (l[j]'h.2) else false
theorem cfAt_eq {l : List O3} {i j : Nat} (hi : i < l.length) (hj : j < l.length) : cfAt l i j = conflB l[i] l[j] := by unfold cfAt; rw [dif_pos ⟨hi, hj⟩]
def rowP (l : List O3) (i k : Nat) : List (Int × Int) := ((List.range k).filter fun j => decide (i < j) && cfAt l i j).map fun j : Nat => ((i : Int), (j : Int))
theorem rowP_yes {l : List O3} {i k : Nat} (hik : i < k) (h : cfAt l i k = true) : rowP l i (k + 1) = rowP l i k ++ [((i : Int), (k : Int))] := by
  unfold rowP
  rw [List.range_succ, List.filter_append, List.map_append]
  simp [h, hik]
theorem rowP_no {l : List O3} {i k : Nat} (h : cfAt l i k = false) : rowP l i (k + 1) = rowP l i k := by
  unfold rowP
  rw [List.range_succ, List.filter_append, List.map_append]
  simp [h]
theorem rowP_start (l : List O3) (i : Nat) : rowP l i (i + 1) = [] := by
  unfold rowP
  rw [List.map_eq_nil_iff, List.filter_eq_nil_iff]
  intro j hj
  rw [List.mem_range] at hj
  simp
  omega
theorem rowP_le (l : List O3) (i k : Nat) : (rowP l i k).length ≤ k := by
  unfold rowP
  rw [List.length_map]
  exact Nat.le_trans (List.length_filter_le _ _) (by simp)
def allP (l : List O3) : Nat → List (Int × Int)
  | 0 => []
  | i + 1 => allP l i ++ rowP l i l.length
theorem allP_le (l : List O3) (h : l.length ≤ 16) (i : Nat) : (allP l i).length ≤ i * 16 := by
  induction i with
  | zero => simp [allP]
  | succ i ih =>
    have := rowP_le l i l.length
    simp only [allP, List.length_append]
    omega
def cfsTo (l : List O3) (i k : Nat) : List (Int × Int) := allP l i ++ rowP l i k
theorem cfsTo_start (l : List O3) (i : Nat) : cfsTo l i (i + 1) = allP l i := by unfold cfsTo; rw [rowP_start, List.append_nil]
theorem cfsTo_end (l : List O3) (i : Nat) : cfsTo l i l.length = allP l (i + 1) := rfl
theorem cfsTo_yes {l : List O3} {i k : Nat} (hik : i < k) (h : cfAt l i k = true) : cfsTo l i (k + 1) = cfsTo l i k ++ [((i : Int), (k : Int))] := by
  unfold cfsTo; rw [rowP_yes hik h, List.append_assoc]
theorem cfsTo_no {l : List O3} {i k : Nat} (h : cfAt l i k = false) : cfsTo l i (k + 1) = cfsTo l i k := by
  unfold cfsTo; rw [rowP_no h]
theorem cfsTo_le (l : List O3) (h : l.length ≤ 16) (i k : Nat) (hi : i ≤ 16) (hk : k ≤ 16) : (cfsTo l i k).length ≤ 1000 := by
  have := allP_le l h i
  have := rowP_le l i k
  unfold cfsTo
  rw [List.length_append]
  omega
def cfsL (l : List O3) : List (Int × Int) := allP l l.length
noncomputable def cfsV (l : List O3) : List (Int × Int) := if tt (ValidP l) = true then cfsL l else []
theorem cfsV_le (l : List O3) : (cfsV l).length ≤ 1000 := by
  unfold cfsV
  split
  · rename_i h
    have h16 := (tt_eq.1 h).1
    have := allP_le l h16 l.length
    unfold cfsL
    omega
  · simp

/-! ### The pairs in memory -/
theorem info_N : (Try.prog.info? 24).map (fun i => (i.zero, i.size, i.bytes)) = some (some (.slice none 0 0), 1, 24) := by kernel_rfl
def rowV (p : Nat × Int × Int) : Value := .slice (some ⟨p.1, 0, none⟩) 2 2
def RowAt (w : World) (p : Nat × Int × Int) : Prop := w.heap[p.1]? = some (.cells #[.int .i64 p.2.1, .int .i64 p.2.2] 3 (0, 0))
/-- A list of pairs, each in a block of its own. -/
structure CRn (wr : World) (B : Nat) (v : Value) (rn : List (Nat × Int × Int)) : Prop where
  own : wr.ownsRow B 24 1 v rn.length (rn.map rowV)
  row : ∀ p ∈ rn, B ≤ p.1 ∧ v.ownBlock ≠ some p.1 ∧ RowAt wr p
  srt : rn.Pairwise (fun a b => a.1 < b.1)
structure CRg (wr : World) (B : Nat) (v : Value) (rn : List (Nat × Int × Int)) : Prop where
  own : OwnG wr B 24 v rn.length (rn.map rowV)
  row : ∀ p ∈ rn, B ≤ p.1 ∧ v.ownBlock ≠ some p.1 ∧ RowAt wr p
  srt : rn.Pairwise (fun a b => a.1 < b.1)
section
variable {w wr w1 : World} {B B' : Nat} {v v' : Value} {rn : List (Nat × Int × Int)}
theorem CRn.on (h : CRn wr B v rn) (hb : Below wr.heap.size wr w1) : CRn w1 B v rn :=
  ⟨row_kept h.own hb.block, fun p hp => ⟨(h.row p hp).1, (h.row p hp).2.1, (hb.block _ (lt_of_block (h.row p hp).2.2)).trans (h.row p hp).2.2⟩, h.srt⟩
theorem CRg.on (h : CRg wr B v rn) (hb : Below wr.heap.size wr w1) : CRg w1 B v rn :=
  ⟨h.own.on hb, fun p hp => ⟨(h.row p hp).1, (h.row p hp).2.1, (hb.block _ (lt_of_block (h.row p hp).2.2)).trans (h.row p hp).2.2⟩, h.srt⟩
theorem CRg.low (h : CRg wr B v rn) (hB : B' ≤ B) : CRg wr B' v rn := ⟨h.own.low hB, fun p hp => ⟨Nat.le_trans hB (h.row p hp).1, (h.row p hp).2⟩, h.srt⟩
theorem CRn.toG (h : CRn wr B v rn) : CRg wr B v rn := ⟨OwnG.of_row h.own, h.row, h.srt⟩
theorem CRg.nil_ : CRg wr B (.slice none 0 0) [] := ⟨.inl ⟨rfl, rfl, rfl⟩, fun p hp => by simp at hp, List.Pairwise.nil⟩
theorem CRg.cut {A : Option Addr} {n c : Nat} (h : CRg wr B (.slice A n c) rn) (hn : n = rn.length) : CRg wr B (.slice A n n) rn := by
  subst hn
  obtain ⟨A', c', e, _, h'⟩ := OwnG.clip h.own
  injection e with e1 _ _
  subst e1
  exact ⟨h', fun p hp => by have := h.row p hp; cases A <;> simpa [Value.ownBlock] using this, h.srt⟩
theorem CRn.app {a b : Int} {o2 : Obj} (h : CRn wr B v rn) (hB : B ≤ wr.heap.size) (hown : w1.ownsRow B 24 1 v' (rn.length + 1) (rn.map rowV ++ [rowV (wr.heap.size, a, b)]))
    (hg : ((wr.alloc (.cells #[.int .i64 a, .int .i64 b] 3)).alloc o2).grownBy w1 v.ownBlock) (hv : v'.ownBlock = v.ownBlock ∨ ∃ k, v'.ownBlock = some k ∧ ((wr.alloc (.cells #[.int .i64 a, .int .i64 b] 3)).alloc o2).heap.size ≤ k) :
    CRn w1 B v' (rn ++ [(wr.heap.size, a, b)]) := by
  have hsz : ((wr.alloc (.cells #[.int .i64 a, .int .i64 b] 3)).alloc o2).heap.size = wr.heap.size + 2 := by simp
  have hob : ∀ k, v.ownBlock = some k → k < wr.heap.size := fun k hk => (h.own.lt k hk).2
  have key : ∀ p : Nat × Int × Int, p.1 ≤ wr.heap.size → v.ownBlock ≠ some p.1 → RowAt ((wr.alloc (.cells #[.int .i64 a, .int .i64 b] 3)).alloc o2) p → v'.ownBlock ≠ some p.1 ∧ RowAt w1 p := by
    intro p hp hne hr
    refine ⟨?_, (hg.block _ (by rw [hsz]; omega) (fun e => hne e.symm)).trans hr⟩
    rcases hv with hv | ⟨k, hv, hk⟩
    · rw [hv]; exact hne
    · rw [hv]; rw [hsz] at hk; simp; omega
  refine ⟨by rw [List.length_append, List.map_append]; exact hown, fun p hp => ?_, ?_⟩
  · rcases List.mem_append.1 hp with hp | hp
    · obtain ⟨h1, h2, h3⟩ := h.row p hp
      have hlt := lt_of_block h3
      obtain ⟨h4, h5⟩ := key p (by omega) h2 ((Below.heap_alloc _ _ _ (by simp; omega)).trans ((Below.heap_alloc _ _ _ hlt).trans h3))
      exact ⟨h1, h4, h5⟩
    · simp at hp
      subst hp
      obtain ⟨h4, h5⟩ := key (wr.heap.size, a, b) (Nat.le_refl _) (fun e => by have := hob _ e; omega) ((Below.heap_alloc _ _ _ (by simp)).trans (heap_alloc_new _ _))
      exact ⟨hB, h4, h5⟩
  · rw [List.pairwise_append]
    refine ⟨h.srt, by simp, fun p hp q hq => ?_⟩
    simp at hq
    subst hq
    exact lt_of_block (h.row p hp).2.2
end
theorem CRn.made (w : World) : CRn (w.alloc (.cells #[] 24)) w.heap.size (.slice (some ⟨w.heap.size, 0, none⟩) 0 0) [] :=
  ⟨World.ownsRow_made w #[] 0 (Nat.le_refl _) (by simp [maxLen]) rfl, fun p hp => by simp at hp, List.Pairwise.nil⟩
set_option maxHeartbeats 400000 in
theorem Clip_RR_any (A : Option Addr) (n c : Nat) (w : World) (hn : n ≤ c) :
    Calls Try.prog 49 #[.slice A n c] w fun e w' => e = .returned (.slice A n n) ∧ w = w' := by
  go_enter Try.func49, Try.ntmps49
  go_wp2
  go_ret
  exact ⟨rfl, rfl⟩
set_option maxHeartbeats 2000000 in
theorem impl_ConflictsOf_any (A : Option Addr) (c : Nat) (l : List O3) (w : World) (hl : l.length ≤ 1048576) (hc : l.length ≤ c) (hR : RdO w w.heap.size A l) :
    Calls Try.prog 23 #[.slice A l.length c] w fun e w' => (∃ v rn, e = .returned v ∧ CRg w' w.heap.size v rn ∧ rn.map Prod.snd = cfsV l) ∧ Below w.heap.size w w' := by
  have HM := Lib.hid (show l.length ≤ maxLen by unfold maxLen; omega)
  obtain ⟨i1, hi1, hy0, hy1, hy2⟩ := info_parts info_N
  cases hv : tt (ValidP l)
  · have hs2 : cfsV l = [] := by unfold cfsV; rw [hv]; rfl
    rw [hs2]
    have HV := Lib.hid hv; clear hv hs2
    go_enter Try.func23, Try.ntmps23
    go_wp2_with fail
    refine (impl_ValidSchedule_any _ _ _ _ HM.out hc hR).mono ?_
    rintro e wb ⟨rfl, hb1⟩
    rw [HV.out]
    go_wp2
    go_ret
    exact ⟨⟨_, [], rfl, CRg.nil_, rfl⟩, by (repeat' (first | (with_reducible exact Below.refl _ _) | (with_reducible assumption) | (with_reducible refine Below.al ?_ _) | (with_reducible refine Below.drew ?_) | (with_reducible refine Below.drN ?_ _) | (with_reducible refine Below.via (by with_reducible assumption) ?_) | (with_reducible refine Below.setc ?_ ?_ _) | (with_reducible exact Nat.le_refl _) | (simp; done) | (simp; omega)))⟩
  · have hs : cfsV l = cfsL l := by unfold cfsV; rw [hv]; rfl
    have hP : ValidP l := tt_eq.1 hv
    have hl16 := hP.1
    rw [hs]
    have HV := Lib.hid hv; clear hv hs
    go_enter Try.func23, Try.ntmps23
    go_wp2_with fail
    refine (impl_ValidSchedule_any _ _ _ _ HM.out hc hR).mono ?_
    rintro e wb ⟨rfl, hb1⟩
    rw [HV.out]
    have HB1 := Lib.hid hb1
    have hb0 : Below wb.heap.size wb (wb.alloc (.cells #[] 24)) := by (repeat' (first | (with_reducible exact Below.refl _ _) | (with_reducible assumption) | (with_reducible refine Below.al ?_ _) | (with_reducible refine Below.drew ?_) | (with_reducible refine Below.drN ?_ _) | (with_reducible refine Below.via (by with_reducible assumption) ?_) | (with_reducible refine Below.setc ?_ ?_ _) | (with_reducible exact Nat.le_refl _) | (simp; done) | (simp; omega)))
    have R1 := Lib.hid (hR.on hb1)
    have C1 := Lib.hid (CRn.made wb)
    have B1 := Lib.hid hb0
    clear hb1 hb0
    go_wp2_with fail
    go_loopw [3, 13] (fun v3 v4 wr => ∃ (i : Nat) (A' : Option Addr) (c' : Nat) (rn : List (Nat × Int × Int)), i ≤ l.length ∧ v4 = .int .i64 i ∧ v3 = .slice A' rn.length c' ∧ CRn wr wb.heap.size (.slice A' rn.length c') rn ∧ rn.map Prod.snd = allP l i ∧ Below wb.heap.size wb wr) (fun _ v4 _ => l.length - (intOf v4).toNat)
    case atStart => exact ⟨0, _, _, [], Nat.zero_le _, rfl, rfl, C1.out, rfl, B1.out⟩
    case round =>
      clear C1 B1
      obtain ⟨i, A', c', rn, hi, rfl, rfl, hC, hps, hbw⟩ := hrel
      have HC := Lib.hid hC; clear hC
      have HB := Lib.hid hbw; clear hbw
      have HR := Lib.hid (R1.out.on HB.out)
      have HP := Lib.hid hps; clear hps
      by_cases hlt : i < l.length
      · obtain ⟨b, off, rfl, hb, q0, q1, q2⟩ := HR.out.at_ hlt
        have BX := Lib.hid (Bx3.made wr 40 l[i].tx l[i].kind l[i].item)
        have hbal : Below wr.heap.size wr (wr.alloc (.cells #[.int .i64 l[i].tx, .int .i64 l[i].kind, .int .i64 l[i].item] 40)) := by (repeat' (first | (with_reducible exact Below.refl _ _) | (with_reducible assumption) | (with_reducible refine Below.al ?_ _) | (with_reducible refine Below.drew ?_) | (with_reducible refine Below.drN ?_ _) | (with_reducible refine Below.via (by with_reducible assumption) ?_) | (with_reducible refine Below.setc ?_ ?_ _) | (with_reducible exact Nat.le_refl _) | (simp; done) | (simp; omega)))
        have C2 := Lib.hid (HC.out.on hbal)
        have hbw2 := HB.out
        have BW := Lib.hid (show Below wb.heap.size wb (wr.alloc (.cells #[.int .i64 l[i].tx, .int .i64 l[i].kind, .int .i64 l[i].item] 40)) from Below.al hbw2 _)
        clear hbal hbw2
        have hsep0 : (Value.slice A' rn.length c').ownBlock ≠ some wr.heap.size := fun e => by have := (HC.out.own.lt _ e).2; omega
        obtain ⟨wo, hwo⟩ : ∃ wo : World, wo = wr := ⟨_, rfl⟩
        subst hwo
        go_wp2_with fail
        go_loopw [3, 6] (fun v3 v6 wr => ∃ (j : Nat) (A' : Option Addr) (c' : Nat) (rn : List (Nat × Int × Int)), i + 1 ≤ j ∧ j ≤ l.length ∧ v6 = .int .i64 j ∧ v3 = .slice A' rn.length c' ∧ CRn wr wb.heap.size (.slice A' rn.length c') rn ∧ rn.map Prod.snd = cfsTo l i j ∧ Below wb.heap.size wb wr ∧ Bx3 wr wo.heap.size 40 l[i].tx l[i].kind l[i].item ∧ (Value.slice A' rn.length c').ownBlock ≠ some wo.heap.size) (fun _ v6 _ => l.length - (intOf v6).toNat)
        case atStart => exact ⟨i + 1, A', c', rn, Nat.le_refl _, by omega, by go_num, rfl, C2.out, by rw [cfsTo_start]; exact HP.out, BW.out, BX.out, hsep0⟩
        case round =>
          clear BW C2 HP HC
          obtain ⟨j, A', c', rn, hij, hj, rfl, rfl, hC, hps, hbw, hBx, hsp⟩ := hrel
          have HC2 := Lib.hid hC; clear hC
          have HB2 := Lib.hid hbw; clear hbw
          have HR2 := Lib.hid (R1.out.on HB2.out)
          have HP2 := Lib.hid hps
          have hle := cfsTo_le l hl16 i j (by omega) (by omega)
          rw [← hps, List.length_map] at hle
          clear hps
          have HX2 := Lib.hid hBx; clear hBx
          have HSP := Lib.hid hsp; clear hsp
          obtain ⟨a0, a1, a2, a3, a4, a5, a6⟩ := HX2.out.at_
          by_cases hjl : j < l.length
          · obtain ⟨b', off', he, hb', s0, s1, s2⟩ := HR2.out.at_ hjl
            injection he with he; injection he with he1 he2
            subst he1 he2
            cases hcf : conflB l[i] l[j]
            all_goals have HCF := hcf
            · have HN := Lib.hid (cfsTo_no (k := j) ((cfAt_eq hlt hjl).trans hcf))
              clear hcf
              go_wp2_with fail
              ((first | (with_reducible refine wp_region_from (by with_reducible assumption) follows (by kernel_rfl) ?_) | (refine wp_region_aft follows (by kernel_rfl) ?_)); (repeat (go_big_quiet_step ((go_at_call 48; exact aftb (impl_conflicts_any _ _ _ _ _ _ _) (HCF))))); refine wpQuiet_nil ?_; intro _ hw'; obtain ⟨⟨w1, hb⟩, rfl⟩ := hw'; (try dsimp only); first | (replace hb := Below.via hb (by with_reducible assumption); (try clear hbc hbf hbz); obtain ⟨hbc, hbf, hbz⟩ := bcell hb) | (obtain ⟨hbc, hbf, hbz⟩ := bcell hb))
              go_wp2
              exact ⟨⟨j + 1, A', c', rn, by omega, by omega, by go_num, rfl, HC2.out.on hb, by rw [HN.out]; exact HP2.out, by have hbw := HB2.out; (repeat' (first | (with_reducible exact Below.refl _ _) | (with_reducible assumption) | (with_reducible refine Below.al ?_ _) | (with_reducible refine Below.drew ?_) | (with_reducible refine Below.drN ?_ _) | (with_reducible refine Below.via (by with_reducible assumption) ?_) | (with_reducible refine Below.setc ?_ ?_ _) | (with_reducible exact Nat.le_refl _) | (simp; done) | (simp; omega))), HX2.out.be hb, HSP.out⟩, by simp [intOf]; omega⟩
            · have HY := Lib.hid (cfsTo_yes (by omega : i < j) ((cfAt_eq hlt hjl).trans hcf))
              clear hcf
              go_wp2_with fail
              ((first | (with_reducible refine wp_region_from (by with_reducible assumption) follows (by kernel_rfl) ?_) | (refine wp_region_aft follows (by kernel_rfl) ?_)); (repeat (go_big_quiet_step ((go_at_call 48; exact aftb (impl_conflicts_any _ _ _ _ _ _ _) (HCF))))); refine wpQuiet_nil ?_; intro _ hw'; obtain ⟨⟨w1, hb⟩, rfl⟩ := hw'; (try dsimp only); first | (replace hb := Below.via hb (by with_reducible assumption); (try clear hbc hbf hbz); obtain ⟨hbc, hbf, hbz⟩ := bcell hb) | (obtain ⟨hbc, hbf, hbz⟩ := bcell hb))
              rename_i w1
              have HC3 := Lib.hid (HC2.out.on hb)
              have HB3 := Lib.hid (show Below wb.heap.size wb w1 by have hbw := HB2.out; (repeat' (first | (with_reducible exact Below.refl _ _) | (with_reducible assumption) | (with_reducible refine Below.al ?_ _) | (with_reducible refine Below.drew ?_) | (with_reducible refine Below.drN ?_ _) | (with_reducible refine Below.via (by with_reducible assumption) ?_) | (with_reducible refine Below.setc ?_ ?_ _) | (with_reducible exact Nat.le_refl _) | (simp; done) | (simp; omega))))
              have HX3 := Lib.hid (HX2.out.be hb)
              have hsz3 := HB3.out.size
              have hpo := Lib.hid (row_kept HC3.out.own (fun k hk => Below.heap_alloc w1 (.cells #[.int .i64 i, .int .i64 j] 3) k hk))
              clear hb hbc hbf hbz
              go_wp2_with (at_builtin; refine wpList_app_r _ 37 24 i1 rfl _ _ rfl Try.underlying37 hi1 hy0 hy1 hy2 wb.heap.size _ (rn.map rowV) rn.length (by simp) rfl hpo.out (some ⟨w1.heap.size, 0, none⟩) 2 2 _ rfl (by first | rfl | simp) (by omega) (by simp; omega) ?_; intro A9 c9 w9 hO9 hg9 hv9 hb9)
              have hst := CRn.app (a := i) (b := j) HC3.out hsz3 hO9 hg9 hv9
              have hsz2 : ((w1.alloc (.cells #[.int .i64 i, .int .i64 j] 3)).alloc (.cells #[.slice (some ⟨w1.heap.size, 0, none⟩) 2 2] 24)).heap.size = w1.heap.size + 2 := by simp
              refine ⟨⟨j + 1, A9, c9, rn ++ [(w1.heap.size, (i : Int), (j : Int))], by omega, by omega, by go_num, by simp, by rw [List.length_append]; exact hst, by rw [List.map_append, HP2.out, HY.out]; rfl, (Below.al HB3.out _).trans hb9, ?_, ?_⟩, by simp [intOf]; omega⟩
              · exact (hg9.block _ (by have := HX3.out.at_.1; rw [hsz2]; omega) (fun e => HSP.out e.symm)).trans ((HX3.out.al _).al _)
              · rw [List.length_append]
                rcases hv9 with h | ⟨k9, h, hk9⟩
                · intro e; exact HSP.out (h.symm.trans e)
                · intro e
                  have e' : (Value.slice A9 (rn.length + 1) c9).ownBlock = some wo.heap.size := e
                  rw [h] at e'
                  injection e' with e'
                  have := HX3.out.at_.1
                  rw [hsz2] at hk9
                  omega
          · have hj' : j = l.length := by omega
            subst hj'
            go_wp2_with fail
            exact ⟨⟨i + 1, A', c', rn, by omega, by go_num, rfl, HC2.out, HP2.out, HB2.out⟩, by simp [intOf]; omega⟩
      · have hi' : i = l.length := by omega
        subst hi'
        have hcap : rn.length ≤ c' := by
          obtain ⟨Ac, cc, hec, hcap⟩ := row_form HC.out.own
          injection hec with _ _ hec
          omega
        go_wp2_with (go_at_call 49; refine (Clip_RR_any _ _ _ _ hcap).mono ?_; rintro e w6 ⟨rfl, rfl⟩)
        go_ret
        exact ⟨⟨.slice A' rn.length rn.length, rn, rfl, (CRg.cut HC.out.toG rfl).low HB1.out.size, HP.out⟩, Below.trans HB1.out (HB.out.mono HB1.out.size)⟩
end Go.Proofs.Ytaflkbemecjcpaa
