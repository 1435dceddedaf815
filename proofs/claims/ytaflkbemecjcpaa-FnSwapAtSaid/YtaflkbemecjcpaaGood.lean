/- The schedules that the drawn laws make: the programs' operations, mixed; some of them bent. -/
import Derived.Test.YtaflkbemecjcpaaLists
import Derived.Test.YtaflkbemecjcpaaSwap
namespace Go.Proofs.Ytaflkbemecjcpaa
set_option linter.unusedSimpArgs false
set_option linter.unusedVariables false
open Go.RowKit

/-- A list of n operations below hi that nobody writes. -/
def RowG (w : World) (g : Nat) (ob : Option Nat) (hi : Nat) (r : Value) (n : Nat) : Prop :=
  ∃ A c l, r = .slice A n c ∧ n ≤ c ∧ l.length = n ∧ RdO w hi A l ∧ ∀ a, A = some a → a.block ≠ g ∧ ob ≠ some a.block ∧ a.block < hi
section
variable {w w1 : World} {g n hi B : Nat} {ob row : Option Nat} {r : Value}
theorem RowR.toG (h : RowR w g ob r n) : RowG w g ob w.heap.size r n := by
  obtain ⟨A, c, l, rfl, hc, hl, hR, ha⟩ := h
  exact ⟨A, c, l, rfl, hc, hl, hR, ha⟩
theorem RowG.far (h : RowG w g ob hi r n) (hg : w.grownBy w1 row) (hhi : hi ≤ w.heap.size) (hne : ∀ b, b ≠ g → ob ≠ some b → row ≠ some b) : RowG w1 g ob hi r n := by
  obtain ⟨A, c, l, rfl, hc, hl, hR, ha⟩ := h
  exact ⟨A, c, l, rfl, hc, hl, hR.far hg hhi (fun a e => hne _ (ha a e).1 (ha a e).2.1), ha⟩
theorem RowG.bel (h : RowG w g ob hi r n) (hb : Below B w w1) (hB : hi ≤ B) : RowG w1 g ob hi r n := by
  obtain ⟨A, c, l, rfl, hc, hl, hR, ha⟩ := h
  exact ⟨A, c, l, rfl, hc, hl, hR.below hb hB, ha⟩
end
/-- The lists while they are used up: the list of lists lies in a block of its own, all below hi. -/
structure GSt (w : World) (g hi : Nat) (wr : World) (A : Option Addr) (c : Nat) (rn : List (Value × Nat)) (P : Nat) : Prop where
  own : OwnG wr w.heap.size 26 (.slice A rn.length c) rn.length (rn.map Prod.fst)
  row : ∀ p ∈ rn, RowG wr g (Value.slice A rn.length c).ownBlock hi p.1 p.2
  rdr : RdrAt wr g P
  gr : w.grownBy wr (some g)
  lt : g < w.heap.size
  le : hi ≤ wr.heap.size
  lo : w.heap.size ≤ hi
  blk : ∀ k, (Value.slice A rn.length c).ownBlock = some k → k < hi
theorem PSt.toG {w wr : World} {g P c : Nat} {A : Option Addr} {rn : List (Value × Nat)} (h : PSt w g wr (.slice A rn.length c) rn P) : GSt w g wr.heap.size wr A c rn P :=
  ⟨OwnG.of_row h.own, fun p hp => (h.row p hp).toG, h.rdr, h.gr, h.lt, Nat.le_refl _, h.gr.size, fun k hk => (h.own.lt k hk).2⟩
section
variable {w wr w1 w2 : World} {g hi P P' c : Nat} {A : Option Addr} {rn : List (Value × Nat)}
theorem GSt.far (h : GSt w g hi wr A c rn P) (hg : wr.grownBy w1 (some g)) (hr : RdrAt w1 g P') : GSt w g hi w1 A c rn P' := by
  refine ⟨far_of h.own hg (fun k hk => ?_), fun p hp => (h.row p hp).far hg h.le (fun b hb _ => by simp; omega), hr, h.gr.trans hg, h.lt, Nat.le_trans h.le hg.size, h.lo, h.blk⟩
  have := (h.own.own_lt k hk).1
  have := h.lt
  simp; omega
theorem GSt.bel {B : Nat} (h : GSt w g hi wr A c rn P) (hb : Below B wr w1) (hB : hi ≤ B) : GSt w g hi w1 A c rn P := by
  have hlt : g < hi := Nat.lt_of_lt_of_le h.lt h.lo
  refine ⟨?_, fun p hp => (h.row p hp).bel hb hB, h.rdr.on hb (by omega), gr_bl h.gr hb (by have := h.lo; omega), h.lt, Nat.le_trans h.le hb.size, h.lo, h.blk⟩
  have ho := h.own
  have hk := h.blk
  rcases ho with ho | ⟨b, cap, cur, e, h1, h2, r⟩
  · exact .inl ho
  · refine .inr ⟨b, cap, cur, e, h1, ?_, r⟩
    rw [hb.block b (by have := hk b (by rw [e]; rfl); omega)]
    exact h2
/-- the cell of one list -/
theorem GSt.at_ (h : GSt w g hi wr A c rn P) {k : Nat} (hk : k < rn.length) : ∃ b, A = some ⟨b, 0, none⟩ ∧ w.heap.size ≤ b ∧ b < hi ∧ wr.cell? ⟨b, k, none⟩ = some rn[k].1 ∧ wr.frozen? ⟨b, k, none⟩ = false ∧ rn.length ≤ c := by
  have h' := h.own
  rcases h' with ⟨e, hn, _⟩ | ⟨b, cap, cur, e, hb, hg, hnc, hcm, ht⟩
  · omega
  · injection e with e1 e2 e3
    subst e1 e3
    obtain ⟨h1, h2, h3, _, h5, h6⟩ := h.own.at_
    refine ⟨b, rfl, h1, h.blk b rfl, ?_, h6 k, h3⟩
    rw [h5 k (by simpa using hk)]
    simp [hk]
theorem GSt.cell_ {b k : Nat} (h : GSt w g hi wr (some ⟨b, 0, none⟩) c rn P) (hk : k < rn.length) : wr.cell? ⟨b, k, none⟩ = some rn[k].1 ∧ wr.frozen? ⟨b, k, none⟩ = false ∧ b < wr.heap.size ∧ rn.length ≤ c := by
  obtain ⟨b', e, h1, h2, h3, h4, h5⟩ := h.at_ hk
  injection e with e; injection e with e
  subst e
  exact ⟨h3, h4, Nat.lt_of_lt_of_le h2 h.le, h5⟩
/-- one list cut -/
theorem GSt.set_ {b k : Nat} {r : Value} {n : Nat} (h : GSt w g hi wr (some ⟨b, 0, none⟩) c rn P) (hk : k < rn.length) (hr : RowG wr g (some b) hi r n) : GSt w g hi (wr.setCell ⟨b, k, none⟩ r) (some ⟨b, 0, none⟩) c (rn.set k (r, n)) P := by
  have hbw : w.heap.size ≤ b ∧ b < hi := by
    obtain ⟨b', e, h1, h2, _⟩ := h.at_ hk
    injection e with e; injection e with e; subst e; exact ⟨h1, h2⟩
  have hlt := h.lt
  have hg : wr.grownBy (wr.setCell ⟨b, k, none⟩ r) (some b) := ⟨rfl, rfl, rfl, by simp, fun j hj hne => Below.heap_setCell wr ⟨b, k, none⟩ _ j (fun e => hne (by rw [e]))⟩
  have hlen : (rn.set k (r, n)).length = rn.length := by simp
  refine ⟨?_, ?_, h.rdr.st _ _ (by show g < b; omega), gr_st h.gr _ _ hbw.1, h.lt, by have := h.le; simpa using this, h.lo, ?_⟩
  · rw [hlen, List.map_set]
    exact OwnG.stored h.own k r
  · intro p hp
    rw [hlen]
    rcases List.mem_or_eq_of_mem_set hp with h1 | rfl
    · exact (h.row p h1).far hg h.le (fun b' _ hb' => hb')
    · exact hr.far hg h.le (fun b' _ hb' => hb')
  · rw [hlen]; exact h.blk
end
/-- How many operations a list still has. -/
def nAt (rn : List (Value × Nat)) (i : Nat) : Nat := (rn[i]?.map Prod.snd).getD 0
theorem nAt_eq {rn : List (Value × Nat)} {i : Nat} (h : i < rn.length) : nAt rn i = rn[i].2 := by simp [nAt, h]
/-- Of the first k lists those that have some. -/
def posTo (rn : List (Value × Nat)) (k : Nat) : List Int := ((List.range k).filter fun i => decide (0 < nAt rn i)).map fun i : Nat => (i : Int)
theorem posTo_yes {rn : List (Value × Nat)} {k : Nat} (h : 0 < nAt rn k) : posTo rn (k + 1) = posTo rn k ++ [(k : Int)] := by
  unfold posTo
  rw [List.range_succ, List.filter_append, List.map_append]
  simp [h]
theorem posTo_no {rn : List (Value × Nat)} {k : Nat} (h : ¬ 0 < nAt rn k) : posTo rn (k + 1) = posTo rn k := by
  unfold posTo
  rw [List.range_succ, List.filter_append, List.map_append]
  simp [h]
theorem posTo_le (rn : List (Value × Nat)) (k : Nat) : (posTo rn k).length ≤ k := by
  unfold posTo
  rw [List.length_map]
  exact Nat.le_trans (List.length_filter_le _ _) (by simp)
theorem posTo_mem {rn : List (Value × Nat)} {k : Nat} {x : Int} (h : x ∈ posTo rn k) : ∃ i : Nat, x = i ∧ i < k ∧ 0 < nAt rn i := by
  unfold posTo at h
  rw [List.mem_map] at h
  obtain ⟨i, hi, rfl⟩ := h
  rw [List.mem_filter, List.mem_range] at hi
  exact ⟨i, rfl, hi.1, by simpa using hi.2⟩
theorem tot_set : ∀ (rn : List (Value × Nat)) (k : Nat) (r : Value) (n m : Nat), (h : k < rn.length) → rn[k].2 = n + m → tot (rn.set k (r, n)) + m = tot rn
  | p :: rn, 0, r, n, m, _, e => by simp at e; simp [tot, e]; omega
  | p :: rn, k + 1, r, n, m, h, e => by
    have := tot_set rn k r n m (by simpa using h) (by simpa using e)
    simp [tot] at this ⊢; omega
theorem RdO.drop {w : World} {B b off : Nat} {l : List O3} (h : RdO w B (some ⟨b, off, none⟩) l) (k : Nat) : RdO w B (some ⟨b, off + k * 3, none⟩) (l.drop k) := fun hne => by
  have hk : k < l.length := by
    rcases Nat.lt_or_ge k l.length with h1 | h1
    · exact h1
    · exact absurd (List.drop_of_length_le h1) hne
  obtain ⟨b', off', e, hb, hc⟩ := h (fun e => by simp [e] at hk)
  injection e with e
  injection e with e1 e2
  subst e1 e2
  refine ⟨b, off + k * 3, rfl, hb, fun j hj => ?_⟩
  simp only [List.length_drop] at hj
  obtain ⟨h0, h1, h2⟩ := hc (k + j) (by omega)
  simp only [List.getElem_drop]
  have e : off + k * 3 + j * 3 = off + (k + j) * 3 := by omega
  rw [e]
  exact ⟨h0, h1, h2⟩
theorem row_cut {w : World} {g hi br off cr nt n : Nat} {ob : Option Nat} {l : List O3} (hn : n ≤ nt) (hnc : nt ≤ cr) (hl : l.length = nt - n) (hR : RdO w hi (some ⟨br, off + n * 3, none⟩) l) (hb : br ≠ g ∧ ob ≠ some br ∧ br < hi) :
    RowG w g ob hi (.slice (if cr = n then some ⟨br, off, none⟩ else some ⟨br, off + n * 3, none⟩) (nt - n) (cr - n)) (nt - n) := by
  by_cases h : cr = n
  · rw [if_pos h]
    refine ⟨_, _, l, rfl, by omega, hl, ?_, fun a e => ?_⟩
    · have : l = [] := List.eq_nil_of_length_eq_zero (by omega)
      subst this
      exact RdO.nil
    · injection e with e; subst e; exact hb
  · rw [if_neg h]
    refine ⟨_, _, l, rfl, by omega, hl, hR, fun a e => ?_⟩
    injection e with e; subst e; exact hb
theorem AppO.low_set {w : World} {B : Nat} {E : TypeId} {v : Value} {l : List O3} (h : AppO w B E v l) (p : Addr) (u : Value) (hp : p.block < B) : AppO (w.setCell p u) B E v l := by
  refine World.ownsRow.kept (row := some p.block) h ⟨rfl, rfl, rfl, by simp, fun k _ hne => Below.heap_setCell w p u k (fun e => hne (by rw [e]))⟩ ?_
  cases hv : v.ownBlock with
  | none => exact .inl rfl
  | some k =>
    refine .inr ?_
    have := (h.lt k hv).1
    simp; omega
set_option maxRecDepth 100000 in
set_option maxHeartbeats 4000000 in
theorem goodSchedule_any (g P most : Nat) (w : World) (hP : P < 700000) (hm : most ≤ 1000) (hr : RdrAt w g P) :
    Calls Try.prog 74 #[.pointer (some ⟨g, 0, none⟩), .int .i64 most] w fun e w' => (∃ A c l P', e = .returned (.slice A l.length c) ∧ OwnO w' w.heap.size 40 (.slice A l.length c) l ∧ l.length ≤ most ∧ RdrAt w' g P' ∧ P' ≤ P + 3000) ∧ w.grownBy w' (some g) := by
  obtain ⟨i0, hi0, hz0, hz1, hz2⟩ := info_parts info_O
  obtain ⟨i2, hi2, hx0, hx1, hx2⟩ := info_parts info_I
  have hz := hr.lt
  go_enter Try.func74, Try.ntmps74
  go_wp2_with fail
  refine (programs_any g P most _ (by omega) hm hr).mono ?_
  rintro e w1 ⟨A, c, rn, P1, rfl, hst, htot, hrl, hP1⟩
  obtain ⟨hi, hhi⟩ : ∃ hi, hi = w1.heap.size := ⟨_, rfl⟩
  have hzw : w.heap.size ≤ hi := by rw [hhi]; exact hst.gr.size
  have S1 := Lib.hid (show GSt w g hi w1 A c rn P1 by rw [hhi]; exact hst.toG)
  have O1 := Lib.hid (show AppO (w1.alloc (.cells #[] 40)) hi 40 (.slice (some ⟨hi, 0, none⟩) 0 0) [] by rw [hhi]; exact AppO.made (Nat.le_refl _) _ _ (by simp [maxLen]) rfl)
  clear hst
  have hgw1 : g < w1.heap.size := S1.out.rdr.lt
  have hgh : g < hi := by omega
  go_wp2_with fail
  refine (pick_any g P1 4 _ (by omega) (by omega) (S1.out.rdr.al _)).mono ?_
  rintro e w2 ⟨⟨x2, rfl, _, _⟩, hr2, hg2⟩
  have S2 := Lib.hid (S1.out.far (show w1.grownBy w2 (some g) by (repeat' (first | (with_reducible exact World.grownBy.refl _ _) | (with_reducible assumption) | (with_reducible refine gr_al ?_ _) | (with_reducible refine gr_st ?_ _ _ ?_) | (with_reducible refine gr_dr ?_) | (with_reducible refine World.grownBy.trans ?_ (by with_reducible assumption)) | (with_reducible refine gr_be ?_ (by with_reducible assumption)) | (with_reducible exact Nat.le_refl _) | (simp; done) | (simp; omega)))) hr2)
  have O2 := Lib.hid (AppO.gr O1.out hg2 hgh)
  clear S1 O1 hg2 hr2
  go_wp2_with fail
  rw [← hhi]
  clear hhi
  obtain ⟨sw, hsw⟩ : ∃ sw : Bool, sw = (x2 == 0) := ⟨_, rfl⟩
  rw [← hsw]
  clear hsw
  obtain ⟨M, hM⟩ : ∃ M, M = rn.length := ⟨_, rfl⟩
  rw [← hM]
  go_loopw [6] (fun v6 wr => ∃ (A' : Option Addr) (c' : Nat) (lo : List O3) (rn' : List (Value × Nat)) (P' : Nat), v6 = .slice A' lo.length c' ∧ AppO wr hi 40 (.slice A' lo.length c') lo ∧ GSt w g hi wr A c rn' P' ∧ rn'.length = M ∧ tot rn' + lo.length ≤ most ∧ P' ≤ P + 200 + 2 * lo.length) (fun v6 _ => most - lenOf v6)
  case atStart => exact ⟨_, _, [], rn, P1 + 1, rfl, O2.out, S2.out, hM.symm, by simpa using htot, by omega⟩
  case round =>
    have hM4 : M ≤ 4 := by omega
    have hM4 : M ≤ 4 := by omega
    have hM4 : M ≤ 4 := by omega
    have hM4 : M ≤ 4 := by omega
    have hM4 : M ≤ 4 := by omega
    have hM4 : M ≤ 4 := by omega
    have hM4 : M ≤ 4 := by omega
    clear S2 O2 hM htot hP1
    obtain ⟨A', c', lo, rn', P', rfl, hoo, hgs, hlen, htt, hPP⟩ := hrel
    have HO := Lib.hid hoo; clear hoo
    have HS := Lib.hid hgs; clear hgs
    obtain ⟨wo, hwo⟩ : ∃ wo : World, wo = wr := ⟨_, rfl⟩
    subst hwo
    have hho := HS.out.le
    have J0 := Lib.hid (show AppI (wo.alloc (.cells #[] 3)) wo.heap.size 3 (.slice (some ⟨wo.heap.size, 0, none⟩) 0 0) [] from AppI.made (Nat.le_refl _) _ _ (by simp [maxLen]) rfl)
    have B0 := Lib.hid (show Below wo.heap.size wo (wo.alloc (.cells #[] 3)) by (repeat' (first | (with_reducible exact Below.refl _ _) | (with_reducible assumption) | (with_reducible refine Below.al ?_ _) | (with_reducible refine Below.drew ?_) | (with_reducible refine Below.drN ?_ _) | (with_reducible refine Below.via (by with_reducible assumption) ?_) | (with_reducible refine Below.setc ?_ ?_ _) | (with_reducible exact Nat.le_refl _) | (simp; done) | (simp; omega))))
    go_wp2_with fail
    go_loopw [8, 9] (fun v8 v9 wr => ∃ (As : Option Addr) (cs k : Nat), v8 = .slice As (posTo rn' k).length cs ∧ v9 = .int .i64 k ∧ k ≤ M ∧ AppI wr wo.heap.size 3 (.slice As (posTo rn' k).length cs) (posTo rn' k) ∧ Below wo.heap.size wo wr) (fun _ v9 _ => M - (intOf v9).toNat)
    case atStart => exact ⟨_, _, 0, rfl, rfl, Nat.zero_le _, J0.out, B0.out⟩
    case round =>
      clear J0 B0
      obtain ⟨As, cs, k, rfl, rfl, hk, hsi, hbw⟩ := hrel
      have HI := Lib.hid hsi; clear hsi
      have HB := Lib.hid hbw; clear hbw
      have hple := posTo_le rn' k
      by_cases hlt : k < M
      · have hkr : k < rn'.length := by omega
        obtain ⟨b, rfl, hb1, hb2, hcell, hfz, hMc⟩ := (HS.out.bel HB.out hho).at_ hkr
        obtain ⟨Ar, cr, lr, hrow, hnc, hll, hRd, _⟩ := HS.out.row rn'[k] (List.getElem_mem hkr)
        rw [hrow] at hcell
        have hwb := HB.out.size
        have hbz : b < wr.heap.size := by omega
        have hn := nAt_eq hkr
        have hl4 : (posTo rn' k).length ≤ 4194304 := by omega
        clear hRd hrow hfz
        obtain ⟨nk, hnk⟩ : ∃ nk, nk = rn'[k].2 := ⟨_, rfl⟩
        rw [← hnk] at hcell hnc hn hll
        rw [hlen] at hMc
        by_cases h0 : 0 < nk
        · have hyes := Lib.hid (posTo_yes (rn := rn') (k := k) (by omega))
          clear hple
          go_wp2_with (at_builtin; refine wpList_app_i _ 24 3 i2 rfl _ _ rfl Try.underlying24 hi2 hx0 hx1 hx2 wo.heap.size _ _ rfl HI.out k _ rfl (by first | rfl | simp) hl4 HB.out.size ?_; intro A5 c5 w5 hO5 hg5 hb5)
          exact ⟨⟨A5, c5, k + 1, by rw [hyes.out]; simp, by go_num, by omega, by rw [hyes.out, List.length_append]; exact hO5, HB.out.trans hb5⟩, by simp [intOf]; omega⟩
        · have hno := Lib.hid (posTo_no (rn := rn') (k := k) (by omega))
          clear hple
          go_wp2_with fail
          exact ⟨⟨As, cs, k + 1, by rw [hno.out], by go_num, by omega, by rw [hno.out]; exact HI.out, HB.out⟩, by simp [intOf]; omega⟩
      · have hkM : k = M := by omega
        have HK := Lib.hid hkM; clear hkM
        have S3 := Lib.hid (HS.out.bel HB.out hho)
        have O3' := Lib.hid (HO.out.on HB.out)
        have S3 := Lib.hid (HS.out.bel HB.out hho)
        have O3' := Lib.hid (HO.out.on HB.out)
        have S3 := Lib.hid (HS.out.bel HB.out hho)
        have O3' := Lib.hid (HO.out.on HB.out)
        have S3 := Lib.hid (HS.out.bel HB.out hho)
        have O3' := Lib.hid (HO.out.on HB.out)
        have S3 := Lib.hid (HS.out.bel HB.out hho)
        have O3' := Lib.hid (HO.out.on HB.out)
        have S3 := Lib.hid (HS.out.bel HB.out hho)
        have O3' := Lib.hid (HO.out.on HB.out)
        have S3 := Lib.hid (HS.out.bel HB.out hho)
        have O3' := Lib.hid (HO.out.on HB.out)
        by_cases hs0 : (posTo rn' k).length = 0
        · go_wp2_with fail
          go_ret
          exact ⟨⟨A', c', lo, P', rfl, O3'.out.own.low hzw, by omega, S3.out.rdr, by omega⟩, S3.out.gr⟩
        · go_wp2_with fail
          refine (pick_any g P' (posTo rn' k).length _ (by omega) (by omega) S3.out.rdr).mono ?_
          rintro e w3 ⟨⟨x3, rfl, x30, x31⟩, hr3, hg3⟩
          obtain ⟨j, rfl⟩ : ∃ j : Nat, x3 = j := ⟨x3.toNat, by omega⟩
          have hj : j < (posTo rn' k).length := by have := x31 (by omega); omega
          clear x30 x31
          have S4 := Lib.hid (S3.out.far hg3 hr3)
          have O4 := Lib.hid (AppO.gr O3'.out hg3 hgh)
          have hgo : g < wo.heap.size := HS.out.rdr.lt
          have hI4 := (far_of HI.out.own hg3 (fun q hq => by have := (HI.out.lt q hq).1; simp; omega) : OwnI w3 wo.heap.size 3 (.slice As (posTo rn' k).length cs) (posTo rn' k))
          obtain ⟨gs, cap, he, _, hgz, hgc, _⟩ := OwnI.at_ hI4 hj
          injection he with he1 _ he3
          subst he1 he3
          obtain ⟨t, ht, htk, htn⟩ := posTo_mem (List.getElem_mem hj)
          rw [ht] at hgc
          have htM : t < M := by omega
          have htr : t < rn'.length := by omega
          rw [nAt_eq htr] at htn
          obtain ⟨nt, hnt⟩ : ∃ nt, nt = rn'[t].2 := ⟨_, rfl⟩
          obtain ⟨Ar, cr, lr, hrow, hnc, hll, _, _⟩ := S4.out.row rn'[t] (List.getElem_mem htr)
          have htl := tot_set rn' t (.slice none 0 0) 0 rn'[t].2 htr (by omega)
          rw [← hnt] at htn hrow hnc hll htl
          clear S3 O3' hI4 ht hg3 hr3 HS HO HI HB
          cases sw
          · skip
            have hn1 : 1 ≤ nt := by omega
            have hn2 : 1 ≤ cr := by omega
            obtain ⟨b, hAb, hb1, hb2, hcell, hfz, hMc⟩ := S4.out.at_ htr
            subst hAb
            rw [hrow] at hcell
            have hbz : b < w3.heap.size := by have := S4.out.le; omega
            have hRd := (S4.out.row rn'[t] (List.getElem_mem htr))
            obtain ⟨Ar2, cr2, lr2, hrow2, _, hll2, hRd2, hblk2⟩ := hRd
            rw [hrow] at hrow2
            injection hrow2 with q1 q2 q3
            subst q1 q3
            clear q2
            rw [← hnt] at hll2
            obtain ⟨br, off, hbr, hbrz, _⟩ := hRd2 (by intro e; rw [e] at hll2; simp at hll2; omega)
            subst hbr
            have hb3 := hblk2 _ rfl
            obtain ⟨m2, hm2, hm3⟩ : ∃ m2 : List O3, m2.length = 1 ∧ RdO w3 hi (some ⟨br, off, none⟩) m2 := ⟨lr2.take 1, by rw [List.length_take]; omega, hRd2.take 1⟩
            have hRD := Lib.hid (RdO.drop hRd2 1)
            have hD : (lr2.drop 1).length = nt - 1 := by rw [List.length_drop]; omega
            have ht4 : lo.length + m2.length ≤ 4194304 := by omega
            have hM3 := Lib.hid hm3
            clear hm3 hRd2 hMc
            have HNT := Lib.hid hnt; clear hnt
            have hMc : M ≤ c := by have := (S4.out.cell_ htr).2.2.2; omega
            go_wp2_with (at_builtin; refine wpList_app_os _ 26 40 i0 rfl _ _ rfl Try.underlying26 hi0 hz0 hz1 hz2 hi _ _ rfl O4.out hi br off _ _ m2 rfl hm2.symm hM3.out ht4 S4.out.le ?_; intro A8 c8 w8 hO8 hg8 hb8; have S8 := Lib.hid (S4.out.bel hb8 (Nat.le_refl _)); obtain ⟨hcell8, hfz8, hbz8, _⟩ := S8.out.cell_ htr; rw [hrow] at hcell8; obtain ⟨lo2, hlo2⟩ : ∃ lo2, lo2 = lo ++ m2 := ⟨_, rfl⟩; have hl2 : lo2.length = lo.length + 1 := (by rw [hlo2, List.length_append, hm2]); rw [← hlo2] at hO8 ⊢; clear hlo2)
            have hts := tot_set rn' t (.slice (if cr = 1 then some ⟨br, off, none⟩ else some ⟨br, off + 1 * 3, none⟩) (nt - 1) (cr - 1)) (nt - 1) 1 htr (by rw [← HNT.out]; omega)
            have hset := S8.out.set_ htr (row_cut (g := g) hn1 hnc hD (hRD.out.below hb8 (Nat.le_refl _)) hb3)
            refine ⟨⟨A8, c8, lo2, rn'.set t (.slice (if cr = 1 then some ⟨br, off, none⟩ else some ⟨br, off + 1 * 3, none⟩) (nt - 1) (cr - 1), nt - 1), (P' + 1), by rw [hl2], ?_, ?_, by simp [hlen], by omega, by omega⟩, by simp [lenOf]; omega⟩
            · rw [hl2]; exact AppO.low_set (by rw [hl2] at hO8; exact hO8) _ _ hb2
            · simpa using hset
          · obtain ⟨b, hAb, hb1, hb2, hcell, hfz, hMc⟩ := S4.out.at_ htr
            subst hAb
            rw [hrow] at hcell
            have hbz : b < w3.heap.size := by have := S4.out.le; omega
            have HNT := Lib.hid hnt; clear hnt
            have hMc' : M ≤ c := by have := (S4.out.cell_ htr).2.2.2; omega
            go_wp2_with fail
            refine (pick_any g (P' + 1) nt _ (by omega) (by omega) S4.out.rdr).mono ?_
            rintro e w4 ⟨⟨x4, rfl, x40, x41⟩, hr4, hg4⟩
            have x42 := x41 (by omega)
            clear x41
            obtain ⟨n, hn⟩ : ∃ n : Nat, 1 + x4 = n := ⟨(1 + x4).toNat, by omega⟩
            have hnn : n ≤ nt := by omega
            have hn0 : 1 ≤ n := by omega
            have S5 := Lib.hid (S4.out.far hg4 hr4)
            have O5 := Lib.hid (AppO.gr O4.out hg4 hgh)
            obtain ⟨Ar5, cr5, lr5, hrow5, hnc5, hll5, _, _⟩ := S5.out.row rn'[t] (List.getElem_mem htr)
            clear S4 O4 hr4 hg4 hcell hfz hbz hMc hMc'
            have hnt := HNT.out
            clear HNT
            have hn1 : n ≤ nt := by omega
            have hn2 : n ≤ cr := by omega
            obtain ⟨hcell, hfz, _, hMc⟩ := S5.out.cell_ htr
            rw [hrow] at hcell
            have hbz : b < w4.heap.size := by have := S5.out.le; omega
            have hRd := (S5.out.row rn'[t] (List.getElem_mem htr))
            obtain ⟨Ar2, cr2, lr2, hrow2, _, hll2, hRd2, hblk2⟩ := hRd
            rw [hrow] at hrow2
            injection hrow2 with q1 q2 q3
            subst q1 q3
            clear q2
            rw [← hnt] at hll2
            obtain ⟨br, off, hbr, hbrz, _⟩ := hRd2 (by intro e; rw [e] at hll2; simp at hll2; omega)
            subst hbr
            have hb3 := hblk2 _ rfl
            obtain ⟨m2, hm2, hm3⟩ : ∃ m2 : List O3, m2.length = n ∧ RdO w4 hi (some ⟨br, off, none⟩) m2 := ⟨lr2.take n, by rw [List.length_take]; omega, hRd2.take n⟩
            have hRD := Lib.hid (RdO.drop hRd2 n)
            have hD : (lr2.drop n).length = nt - n := by rw [List.length_drop]; omega
            have ht4 : lo.length + m2.length ≤ 4194304 := by omega
            have hM3 := Lib.hid hm3
            clear hm3 hRd2 hMc
            have HNT := Lib.hid hnt; clear hnt
            have hMc : M ≤ c := by have := (S5.out.cell_ htr).2.2.2; omega
            go_wp2_with (at_builtin; refine wpList_app_os _ 26 40 i0 rfl _ _ rfl Try.underlying26 hi0 hz0 hz1 hz2 hi _ _ rfl O5.out hi br off _ _ m2 rfl hm2.symm hM3.out ht4 S5.out.le ?_; intro A8 c8 w8 hO8 hg8 hb8; have S8 := Lib.hid (S5.out.bel hb8 (Nat.le_refl _)); obtain ⟨hcell8, hfz8, hbz8, _⟩ := S8.out.cell_ htr; rw [hrow] at hcell8; obtain ⟨lo2, hlo2⟩ : ∃ lo2, lo2 = lo ++ m2 := ⟨_, rfl⟩; have hl2 : lo2.length = lo.length + n := (by rw [hlo2, List.length_append, hm2]); rw [← hlo2] at hO8 ⊢; clear hlo2)
            have hts := tot_set rn' t (.slice (if cr = n then some ⟨br, off, none⟩ else some ⟨br, off + n * 3, none⟩) (nt - n) (cr - n)) (nt - n) n htr (by rw [← HNT.out]; omega)
            have hset := S8.out.set_ htr (row_cut (g := g) hn1 hnc hD (hRD.out.below hb8 (Nat.le_refl _)) hb3)
            refine ⟨⟨A8, c8, lo2, rn'.set t (.slice (if cr = n then some ⟨br, off, none⟩ else some ⟨br, off + n * 3, none⟩) (nt - n) (cr - n), nt - n), (P' + 1 + 1), by rw [hl2], ?_, ?_, by simp [hlen], by omega, by omega⟩, by simp [lenOf]; omega⟩
            · rw [hl2]; exact AppO.low_set (by rw [hl2] at hO8; exact hO8) _ _ hb2
            · simpa using hset
end Go.Proofs.Ytaflkbemecjcpaa
