/- The first shortest circle: the program's walk. -/
import Derived.Test.YtaflkbemecjcpaaCyI
import Derived.Deep.CutRange
namespace Go.Proofs.Ytaflkbemecjcpaa
set_option linter.unusedSimpArgs false
set_option linter.unusedVariables false
open Go.RowKit
theorem eql_nilI (A : Option Addr) (l c : Nat) (w : World) : (binOp .eql 24 (.slice A l c) (.slice none 0 0)).run Try.prog w = .ok (.bool A.isNone) w := by
  simp only [binOp]
  simp [run_equal_slice_nil w 24 3 A l c Try.underlying24]
set_option maxHeartbeats 400000 in
theorem Clone_int_any (b off c : Nat) (l : List Int) (w : World) (hl : l.length ≤ 1048576) (hR : RdI w w.heap.size (some ⟨b, off, none⟩) l) :
    Calls Try.prog 88 #[.slice (some ⟨b, off, none⟩) l.length c] w fun e w' => (∃ v, e = .returned v ∧ OwnI w' w.heap.size 3 v l) ∧ Below w.heap.size w w' := by
  obtain ⟨i0, hi0, hz0, hz1, hz2⟩ := info_parts info_I
  have HO := Lib.hid (show AppI (w.alloc (Obj.cells #[] 3)) w.heap.size 3 (.slice (some ⟨w.heap.size, 0, none⟩) 0 0) [] from AppI.made (Nat.le_refl _) _ _ (by simp [maxLen]) rfl)
  have HR := Lib.hid (hR.alloc (Nat.le_refl _) (Obj.cells #[] 3)); clear hR
  have hb0 : Below w.heap.size w (w.alloc (Obj.cells #[] 3)) := by (repeat' (first | (with_reducible exact Below.refl _ _) | (with_reducible assumption) | (with_reducible refine Below.al ?_ _) | (with_reducible refine Below.drew ?_) | (with_reducible refine Below.drN ?_ _) | (with_reducible refine Below.via (by with_reducible assumption) ?_) | (with_reducible refine Below.setc ?_ ?_ _) | (with_reducible exact Nat.le_refl _) | (simp; done) | (simp; omega)))
  have HB := Lib.hid hb0; clear hb0
  have hnil := eql_nilI (some ⟨b, off, none⟩) l.length c w
  go_enter Try.func88, Try.ntmps88
  go_wp2_with (at_builtin; refine wpList_app_is _ 24 3 i0 rfl _ _ rfl Try.underlying24 hi0 hz0 hz1 hz2 w.heap.size _ _ rfl HO.out _ _ _ _ _ l rfl rfl HR.out (by simp; omega) HB.out.size ?_; intro A2 c2 w2 hO2 hg2 hb2)
  go_ret
  exact ⟨⟨_, rfl, hO2.own⟩, HB.out.trans hb2⟩
theorem Clone_ci_any (b off c n : Nat) (q : List Nat) (w : World) (hn : n = q.length) (hl : n ≤ 1048576) (hR : RdI w w.heap.size (some ⟨b, off, none⟩) (ci q)) :
    Calls Try.prog 88 #[.slice (some ⟨b, off, none⟩) n c] w fun e w' => (∃ v, e = .returned v ∧ OwnI w' w.heap.size 3 v (ci q)) ∧ Below w.heap.size w w' := by
  subst hn
  have h := Clone_int_any b off c (ci q) w (by rw [ci_len]; exact hl) hR
  rw [ci_len] at h
  exact h
theorem Contains_ci_any (A : Option Addr) (c n : Nat) (q : List Nat) (t : Nat) (w : World) (hn : n = q.length) (hl : n ≤ maxLen) (hR : RdI w w.heap.size A (ci q)) :
    Calls Try.prog 89 #[.slice A n c, .int .i64 (t : Int)] w fun e w' => e = .returned (.bool (hasN q t)) ∧ w = w' := by
  subst hn
  have h := Contains_int_any A c (ci q) (t : Int) w (by rw [ci_len]; exact hl) hR
  rw [ci_len, ci_has] at h
  exact h
set_option maxRecDepth 8192 in
set_option maxHeartbeats 4000000 in
theorem impl_circle1_any (f : Nat → Nat → Bool) (B bp bg bb bf : Nat) (A : Option Addr) (c : Nat) : ∀ (k : Nat) (p : List Nat) (t : Nat) (Ap : Option Addr) (np cp : Nat) (vb : Value) (best : List Nat) (w : World), left p ≤ k → p.length + k ≤ 100 → (∀ x ∈ p, x < 4) → t < 4 → hasN p t = false → B ≤ w.heap.size → CirAt w B bp bg bb bf A c f Ap np cp p vb best →
    Calls Try.prog 86 #[.int .i64 (t : Int), .pointer (some ⟨bp, 0, none⟩), .pointer (some ⟨bg, 0, none⟩), .pointer (some ⟨bb, 0, none⟩), .pointer (some ⟨bf, 0, none⟩)] w fun e w' =>
      (∃ v, e = .returned v) ∧ (∃ Ap' cp' vb', CirAt w' B bp bg bb bf A c f Ap' np cp' p vb' (dfs f k p best t)) ∧ Below B w w' := by
  obtain ⟨i0, hi0, hz0, hz1, hz2⟩ := info_parts info_I
  intro k
  induction k with
  | zero =>
    intro p t Ap np cp vb best w hk _ _ ht hh _ _
    have := left_pos ht hh
    omega
  | succ k ih =>
    intro p t Ap np cp vb best w hk hlen hx ht hh hB hS
    have HIH := Lib.hid ih
    clear ih
    have hlq := left_app ht hh
    have hnp := hS.len
    have HL4 := Lib.hid (show (ci p).length ≤ 4194304 by rw [ci_len]; omega)
    have y1 : w.cell? ⟨bp, 0, none⟩ = some (.slice Ap np cp) := cell_of_row w bp 0 _ _ (0, 0) hS.xp
    have HS := Lib.hid hS
    clear hS
    have HNC := Lib.hid (show np = (ci p).length by rw [ci_len]; exact hnp)
    have HNP := Lib.hid hnp
    have HHH := Lib.hid hh
    have HLQ := Lib.hid hlq
    clear hnp hh hlq
    go_enter_defers Try.func86, Try.ntmps86
    go_wp2_with (at_builtin; refine wpList_app_ia _ 24 3 i0 rfl _ _ rfl Try.underlying24 hi0 hz0 hz1 hz2 B (.slice Ap np cp) (ci p) rfl HS.out.fp (t : Int) _ rfl (by first | rfl | simp) HL4.out hB ?_; rw [← HNC.out]; intro A9 c9 w9 hO9 hg9 hv9; obtain ⟨S2, B2, K9⟩ := HS.out.push hB hO9 hg9 hv9; have z1 : w9.cell? ⟨bp, 0, none⟩ = some (.slice Ap np cp) := cell_of_row w9 bp 0 _ _ (0, 0) (K9.trans HS.out.xp); have z2 : w9.frozen? ⟨bp, 0, none⟩ = false := frozen_of_row w9 bp 0 _ _ (K9.trans HS.out.xp))
    obtain ⟨w2, hw2⟩ : ∃ w2, w2 = w9.setCell ⟨bp, 0, none⟩ (.slice A9 (np + 1) c9) := ⟨_, rfl⟩
    rw [← hw2] at S2 B2 ⊢
    clear hw2 hO9 hg9 hv9 K9 z1 z2 y1
    obtain ⟨b, off, rfl, hbB, _⟩ := mk4_row f S2.gr (a := t) (by omega)
    have hrow := mk4_cell f S2.gr (a := t) (by omega)
    obtain ⟨g, rfl, x1, x2, x3, x4, x5, x6, x7, x8⟩ := S2.facts (by simp)
    have hh3 : headN (p ++ [t]) ≤ 3 := by
      rw [← headN_at (p := p ++ [t]) (by simp)]
      have hm := List.getElem_mem (l := p ++ [t]) (n := 0) (by simp)
      rcases List.mem_append.1 hm with h | h
      · have := hx _ h; omega
      · simp at h; omega
    obtain ⟨d, hd⟩ : ∃ d, headN (p ++ [t]) = d := ⟨_, rfl⟩
    rw [hd] at x1 hh3
    have ht4 : (t : Int) < 4 := by omega
    have HD := Lib.hid hd
    have l1 := lt_of_block S2.xp
    have l2 := lt_of_block S2.xg
    have l3 := lt_of_block S2.xb
    have l4 := lt_of_block S2.xf
    have l5 : g < w2.heap.size := (S2.fp.lt g rfl).2
    have l6 : b < w2.heap.size := by have := B2.size; omega
    have HS2 := Lib.hid S2
    have HB2 := Lib.hid B2
    clear hd S2 B2 HS
    have hbit := msk_and (f t) d hh3
    have hnpq : np + 1 = (p ++ [t]).length := by have := HNP.out; simp; omega
    have HNQ := Lib.hid hnpq
    clear hnpq
    go_cut [32] from 12 to 31 (fun v32 wx => v32 = .bool (f t d && better best (p ++ [t])) ∧ Below w2.heap.size w2 wx)
    case first =>
      cases e1 : f t d
      · rw [e1] at hbit
        simp only [cond_false] at hbit
        ((first | (with_reducible refine wp_region_from (by with_reducible assumption) follows (by kernel_rfl) ?_) | (refine wp_region_aft follows (by kernel_rfl) ?_)); (repeat (go_big_quiet_step (fail))); refine wpQuiet_nil ?_; intro _ hw'; obtain ⟨⟨w1, hb⟩, rfl⟩ := hw'; (try dsimp only); first | (replace hb := Below.via hb (by with_reducible assumption); (try clear hbc hbf hbz); obtain ⟨hbc, hbf, hbz⟩ := bcell hb) | (obtain ⟨hbc, hbf, hbz⟩ := bcell hb))
        go_wp2_with fail
        go_meet
        exact ⟨by rw [e1]; rfl, hb⟩
      · rw [e1] at hbit
        simp only [cond_true] at hbit
        by_cases hbe : best = []
        · have hnv := HS2.out.nil hbe
          subst hnv
          have hnil := fun W => eql_nilI none 0 0 W
          ((first | (with_reducible refine wp_region_from (by with_reducible assumption) follows (by kernel_rfl) ?_) | (refine wp_region_aft follows (by kernel_rfl) ?_)); (repeat (go_big_quiet_step (fail))); refine wpQuiet_nil ?_; intro _ hw'; obtain ⟨⟨w1, hb⟩, rfl⟩ := hw'; (try dsimp only); first | (replace hb := Below.via hb (by with_reducible assumption); (try clear hbc hbf hbz); obtain ⟨hbc, hbf, hbz⟩ := bcell hb) | (obtain ⟨hbc, hbf, hbz⟩ := bcell hb))
          go_wp2_with fail
          go_meet
          exact ⟨by rw [e1, hbe]; rfl, hb⟩
        · obtain ⟨Ab, cb, rfl, _, _, hAb⟩ := HS2.out.fb.reads
          obtain ⟨gb, rfl, _⟩ := hAb (by intro e; apply hbe; have := congrArg List.length e; rw [ci_len] at this; exact List.eq_nil_of_length_eq_zero this)
          have hnil := fun W => eql_nilI (some ⟨gb, 0, none⟩) (ci best).length cb W
          have hbt : better best (p ++ [t]) = Nat.blt (np + 1) (ci best).length := by
            rw [ci_len, HNQ.out]
            cases best with
            | nil => exact absurd rfl hbe
            | cons y s => rfl
          have HBT := Lib.hid hbt
          clear hbt
          ((first | (with_reducible refine wp_region_from (by with_reducible assumption) follows (by kernel_rfl) ?_) | (refine wp_region_aft follows (by kernel_rfl) ?_)); (repeat (go_big_quiet_step (fail))); refine wpQuiet_nil ?_; intro _ hw'; obtain ⟨⟨w1, hb⟩, rfl⟩ := hw'; (try dsimp only); first | (replace hb := Below.via hb (by with_reducible assumption); (try clear hbc hbf hbz); obtain ⟨hbc, hbf, hbz⟩ := bcell hb) | (obtain ⟨hbc, hbf, hbz⟩ := bcell hb))
          go_wp2_with fail
          go_meet
          exact ⟨by rw [e1, HBT.out, Bool.true_and]; exact congrArg Value.bool (by rw [Bool.eq_iff_iff, Nat.blt_eq]; simp; omega), hb⟩
    case rest =>
      obtain ⟨rfl, hbc2⟩ := hcut
      have SC := Lib.hid (HS2.out.on hbc2 (Nat.le_trans hB HB2.out.size))
      have BC := Lib.hid (HB2.out.trans (hbc2.mono (Nat.le_trans hB HB2.out.size)))
      clear hbc2 x1 x2 x3 x4 x5 x6 x7 l1 l2 l3 l4 l5 l6 hrow HS2 HB2
      have hBc : B ≤ wc.heap.size := Nat.le_trans hB BC.out.size
      go_upto_if 32 with fail
      go_cut [] from 12 to 36 (fun wx => ∃ vb', CirAt wx B bp bg bb bf (some ⟨b, off, none⟩) c f (some ⟨g, 0, none⟩) (np + 1) c9 (p ++ [t]) vb' (dfsB f (p ++ [t]) t best) ∧ Below B w wx)
      case first =>
        cases e2 : (f t d && better best (p ++ [t]))
        · go_wp2_with fail
          go_meet
          exact ⟨vb, by unfold dfsB; rw [HD.out, e2]; exact SC.out, BC.out⟩
        · have HE2 := Lib.hid e2
          clear e2
          obtain ⟨g', eg, x1, x2, x3, x4, x5, x6, x7, x8⟩ := SC.out.facts (by simp)
          injection eg with eg
          injection eg with eg _
          subst eg
          go_wp2_with fail
          refine (Clone_ci_any g 0 c9 (np + 1) (p ++ [t]) _ HNQ.out (by have := HNQ.out; simp at this; omega) SC.out.fp.own.rd).mono ?_
          rintro e w4 ⟨⟨v, rfl, hO4⟩, hb4⟩
          obtain ⟨A4, c4, rfl, _⟩ := hO4.reads
          obtain ⟨s4, b4⟩ := SC.out.keep hBc hb4 hO4 (by simp)
          have S4 := Lib.hid s4
          have B4 := Lib.hid (BC.out.trans b4)
          have z1 : w4.cell? ⟨bb, 0, none⟩ = some vb := cell_of_row w4 bb 0 _ _ (0, 0) ((hb4.block _ (lt_of_block SC.out.xb)).trans SC.out.xb)
          have z2 : w4.frozen? ⟨bb, 0, none⟩ = false := frozen_of_row w4 bb 0 _ _ ((hb4.block _ (lt_of_block SC.out.xb)).trans SC.out.xb)
          clear s4 b4 hO4 hb4
          go_wp2_with fail
          go_meet
          exact ⟨_, by unfold dfsB; rw [HD.out, HE2.out, if_pos rfl]; exact S4.out, B4.out⟩
      case rest =>
        obtain ⟨vb2, sx, bx⟩ := hcut
        have SX := Lib.hid sx
        have BX := Lib.hid bx
        obtain ⟨g', eg, x1, x2, x3, x4, x5, x6, x7, x8⟩ := sx.facts (by simp)
        clear sx bx SC BC hbit eg
        go_wp2_with fail
        clear x1 x2 x3 x4 x5 x6 x7
        go_loopw [6, 37] (fun _ v37 wr => ∃ (u : Nat) (Ap' : Option Addr) (cp' : Nat) (vb' : Value), u ≤ 4 ∧ v37 = .int .i64 u ∧ CirAt wr B bp bg bb bf (some ⟨b, off, none⟩) c f Ap' (np + 1) cp' (p ++ [t]) vb' (loopU (dfsG f k (p ++ [t]) t) (List.range u) (dfsB f (p ++ [t]) t best)) ∧ Below B w wr) (fun _ v37 _ => 4 - (intOf v37).toNat)
        case atStart => exact ⟨0, _, _, vb2, by omega, rfl, SX.out, BX.out⟩
        case round =>
          obtain ⟨u, A1, c1, vb1, hu, rfl, sr, br⟩ := hrel
          clear SX BX
          have hrow := mk4_cell f sr.gr (a := t) (by omega)
          obtain ⟨g1, rfl, x1, x2, x3, x4, x5, x6, x7, x9⟩ := sr.facts (by simp)
          rw [HD.out] at x1
          have SR := Lib.hid sr
          have BR := Lib.hid br
          have hBr : B ≤ wr.heap.size := Nat.le_trans hB br.size
          clear sr br
          by_cases hlt : u < 4
          · have hbit := msk_and (f t) u (by omega)
            have hult : (u : Int) < 4 := by omega
            cases e1 : f t u
            · rw [e1] at hbit
              simp only [cond_false] at hbit
              have HN := Lib.hid (show loopU (dfsG f k (p ++ [t]) t) (List.range (u + 1)) (dfsB f (p ++ [t]) t best) = loopU (dfsG f k (p ++ [t]) t) (List.range u) (dfsB f (p ++ [t]) t best) by rw [loopU_next]; unfold dfsG; rw [e1]; rfl)
              clear e1
              go_wp2_with fail
              exact ⟨⟨u + 1, _, c1, vb1, by omega, by go_num, by rw [HN.out]; exact SR.out, BR.out⟩, by simp [intOf]; omega⟩
            · rw [e1] at hbit
              simp only [cond_true] at hbit
              by_cases h2 : d < u
              · have h2' : (d : Int) < u := by omega
                have hbl : Nat.blt (headN (p ++ [t])) u = true := by rw [HD.out, Nat.blt_eq]; exact h2
                cases e3 : hasN (p ++ [t]) u
                · have HE3 := Lib.hid e3
                  have HN := Lib.hid (show loopU (dfsG f k (p ++ [t]) t) (List.range (u + 1)) (dfsB f (p ++ [t]) t best) = dfs f k (p ++ [t]) (loopU (dfsG f k (p ++ [t]) t) (List.range u) (dfsB f (p ++ [t]) t best)) u by
                    rw [loopU_next]
                    generalize loopU (dfsG f k (p ++ [t]) t) (List.range u) (dfsB f (p ++ [t]) t best) = bb'
                    unfold dfsG; rw [e1, e3, hbl]; rfl)
                  clear e1 e3 hbl
                  go_wp2_with (go_at_call 89; refine (Contains_ci_any _ _ (np + 1) (p ++ [t]) u _ HNQ.out (by have := HNQ.out; simp at this; unfold maxLen; omega) SR.out.fp.own.rd).mono ?_; rintro e w4 ⟨rfl, rfl⟩; rw [HE3.out])
                  refine (HIH.out (p ++ [t]) u (some ⟨g1, 0, none⟩) (np + 1) c1 vb1 _ _ (by have := HLQ.out; omega) (by simp; omega) (fun x hx' => by rcases List.mem_append.1 hx' with h | h; exact hx x h; simp at h; omega) hlt HE3.out hBr SR.out).mono ?_
                  rintro e w5 ⟨⟨v, rfl⟩, ⟨A5, c5, vb5, s5⟩, b5⟩
                  go_wp2_with fail
                  exact ⟨⟨u + 1, A5, c5, vb5, by omega, by go_num, by rw [HN.out]; exact s5, BR.out.trans b5⟩, by simp [intOf]; omega⟩
                · have HE3 := Lib.hid e3
                  have HN := Lib.hid (show loopU (dfsG f k (p ++ [t]) t) (List.range (u + 1)) (dfsB f (p ++ [t]) t best) = loopU (dfsG f k (p ++ [t]) t) (List.range u) (dfsB f (p ++ [t]) t best) by rw [loopU_next]; unfold dfsG; rw [e1, e3]; simp)
                  clear e1 e3 hbl
                  go_wp2_with (go_at_call 89; refine (Contains_ci_any _ _ (np + 1) (p ++ [t]) u _ HNQ.out (by have := HNQ.out; simp at this; unfold maxLen; omega) SR.out.fp.own.rd).mono ?_; rintro e w4 ⟨rfl, rfl⟩; rw [HE3.out])
                  exact ⟨⟨u + 1, _, c1, vb1, by omega, by go_num, by rw [HN.out]; exact SR.out, BR.out⟩, by simp [intOf]; omega⟩
              · have h2' : ¬ ((d : Int) < u) := by omega
                have hbl : Nat.blt (headN (p ++ [t])) u = false := by rw [HD.out, Bool.eq_false_iff]; intro e; rw [Nat.blt_eq] at e; exact h2 e
                have HN := Lib.hid (show loopU (dfsG f k (p ++ [t]) t) (List.range (u + 1)) (dfsB f (p ++ [t]) t best) = loopU (dfsG f k (p ++ [t]) t) (List.range u) (dfsB f (p ++ [t]) t best) by rw [loopU_next]; unfold dfsG; rw [hbl]; simp)
                clear e1 hbl
                go_wp2_with fail
                exact ⟨⟨u + 1, _, c1, vb1, by omega, by go_num, by rw [HN.out]; exact SR.out, BR.out⟩, by simp [intOf]; omega⟩
          · have hu4 := Lib.hid (show u = 4 by omega)
            have hcap : np + 1 ≤ c1 := x9
            go_wp2_with fail
            refine leaves_cons (f := 87) (args := #[.pointer (some ⟨bp, 0, none⟩)]) (by simp) (by simp [go_sem]) ?_
            have hp := SR.out.pop
            refine (impl_circle11_any .returning bp (some ⟨g1, 0, none⟩) np c1 wr x2 x7 hcap (by have := HNQ.out; simp at this; unfold maxLen; omega)).mono ?_
            rintro e u' w5 ⟨rfl, ⟨v, rfl⟩, rfl⟩
            refine ⟨_, results_none rfl _ _ _, ⟨_, rfl⟩, ⟨some ⟨g1, 0, none⟩, c1, vb1, ?_⟩, BR.out.trans hp.2⟩
            have h := hp.1
            rw [hu4.out] at h
            rw [dfs_succ]
            exact h
end Go.Proofs.Ytaflkbemecjcpaa
