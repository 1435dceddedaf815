/- Two neighbours exchanged: contracts of slices.Clone and slices.Clip at operations, and of SwapAt, the reference's and the program's. -/
import Derived.Test.YtaflkbemecjcpaaFilt
namespace Go.Proofs.Ytaflkbemecjcpaa
set_option linter.unusedSimpArgs false
set_option linter.unusedVariables false
open Go.RowKit

/-! ### The plain side -/
def SwapP (l : List O3) (i : Int) : Prop := ValidP l ∧ ∃ k : Nat, i = k ∧ ∃ h : k + 1 < l.length, l[k].tx ≠ l[k + 1].tx ∧ conflB l[k] l[k + 1] = false
def swapL (l : List O3) (k : Nat) : List O3 := if h : k + 1 < l.length then (l.set k l[k + 1]).set (k + 1) l[k] else []
noncomputable def swapOk (l : List O3) (i : Int) : Bool := tt (SwapP l i)
noncomputable def swapV (l : List O3) (i : Int) : List O3 := if swapOk l i = true then swapL l i.toNat else []
theorem swapV_len (l : List O3) (i : Int) (hl : l.length ≤ 1048576) : (swapV l i).length ≤ 1048576 := by
  unfold swapV; split
  · unfold swapL; split <;> simp [hl]
  · simp
theorem swap_no {l : List O3} {i : Int} (h : ¬ SwapP l i) : swapOk l i = false ∧ swapV l i = [] := by
  have : swapOk l i = false := tt_false h
  exact ⟨this, by simp [swapV, this]⟩
theorem swap_yes {l : List O3} {k : Nat} (h : SwapP l k) (hk : k + 1 < l.length) : swapOk l k = true ∧ swapV l k = (l.set k l[k + 1]).set (k + 1) l[k] := by
  have : swapOk l k = true := tt_true h
  exact ⟨this, by simp [swapV, this, swapL, hk]⟩
theorem rng_of {i : Int} {n : Nat} (h : inR i 0 ((n : Int) - 2) = true) : ∃ k : Nat, i = k ∧ k + 1 < n := by
  simp only [inR, decide_eq_true_eq] at h
  exact ⟨i.toNat, by omega, by omega⟩
theorem rng_no {i : Int} {l : List O3} (h : inR i 0 ((l.length : Int) - 2) = false) : ¬ SwapP l i := by
  simp only [inR, decide_eq_false_iff_not] at h
  rintro ⟨_, k, rfl, hk, _⟩
  exact h (by omega)

/-! ### append of a whole slice -/
theorem rd_cells {w : World} {B b off : Nat} {l : List O3} (h : RdO w B (some ⟨b, off, none⟩) l) : ∀ j u, (cellsO l)[j]? = some u → w.cell? ((⟨b, off, none⟩ : Addr).add j) = some u := by
  intro j u hj
  have hlt : j < (cellsO l).length := (List.getElem?_eq_some_iff.1 hj).1
  rw [cellsO_length] at hlt
  have hk : j / 3 < l.length := by omega
  obtain ⟨b', off', e, _, h0, h1, h2⟩ := h.at_ hk
  simp only [Option.some.injEq, Addr.mk.injEq, and_true] at e
  obtain ⟨rfl, rfl⟩ := e
  obtain ⟨c0, c1, c2⟩ := cellsO_at l (j / 3) hk
  rw [addr_add]
  have h3 : j % 3 < 3 := Nat.mod_lt _ (by omega)
  match hm : j % 3, h3 with
  | 0, _ =>
    have e : j = j / 3 * 3 := by omega
    rw [e] at hj ⊢
    rw [c0] at hj; rw [h0, ← hj]
  | 1, _ =>
    have e : j = j / 3 * 3 + 1 := by omega
    rw [e] at hj ⊢
    rw [c1] at hj; rw [← Nat.add_assoc, h1, ← hj]
  | 2, _ =>
    have e : j = j / 3 * 3 + 2 := by omega
    rw [e] at hj ⊢
    rw [c2] at hj; rw [← Nat.add_assoc, h2, ← hj]
section
variable {P : Program} {ops : Array Oper} {rest : List Oper} {o : Oper} {a : Act} {Q : Exit → Act → World → Prop}
theorem wpList_app_os (W : World) (T E : TypeId) (i : TypeInfo) (hgd : o.guard = none) (s x : Operand)
    (ho : o.op = .call { callee := .builtin .append, args := #[s, x], argTypes := #[T, T] })
    (ht : P.underlying T = some (.slice E)) (hi : P.info? E = some i) (hz : i.zero = some (.agg #[.int .i64 0, .int .i64 0, .int .i64 0])) (hsize : i.size = 3) (hby : i.bytes = 24)
    (base : Nat) (v : Value) (l : List O3) (hs : a.eval s = v) (hown : AppO W base E v l)
    (B b off m c : Nat) (l2 : List O3) (hx : a.eval x = .slice (some ⟨b, off, none⟩) m c) (hm : m = l2.length) (hR : RdO W B (some ⟨b, off, none⟩) l2) (hlen : l.length + l2.length ≤ 4194304) (hbase : base ≤ W.heap.size)
    (h : ∀ A' c' w', AppO w' base E (.slice A' (l ++ l2).length c') (l ++ l2) → W.grownBy w' v.ownBlock → Below base W w' → wpList P ops Q rest (a.put o.dst (.slice A' (l ++ l2).length c')) w') :
    wpList P ops Q (o :: rest) a W := by
  subst hm
  refine wpList_append_own _ hgd s x T ho base E i _ 3 24 ht hi hz hsize hby rfl (by decide) v l.length (cellsO l) hs hown ⟨b, off, none⟩ l2.length c (cellsO l2) hx (cellsO_length _) (rd_cells hR) (cellsO_one _) ?_ ?_ hbase ?_
  · unfold maxLen; omega
  · omega
  · intro v' w' h1 h2 _
    obtain ⟨A', c', rfl, _⟩ := row_form h1
    rw [← cellsO_append] at h1
    have e : l.length + l2.length = (l ++ l2).length := by rw [List.length_append]
    rw [e] at h1 ⊢
    refine h A' c' w' h1 h2 ?_
    exact Below.grown (Below.refl _ _) h2 hbase (fun k hk => (hown.lt k hk).1)
end
theorem eql_nil (A : Option Addr) (l c : Nat) (w : World) : (binOp .eql 26 (.slice A l c) (.slice none 0 0)).run Try.prog w = .ok (.bool A.isNone) w := by
  simp only [binOp]
  simp [run_equal_slice_nil w 26 40 A l c Try.underlying26]
set_option maxHeartbeats 400000 in
theorem Clone_Op_any (b off c : Nat) (l : List O3) (w : World) (hl : l.length ≤ 1048576) (hR : RdO w w.heap.size (some ⟨b, off, none⟩) l) :
    Calls Try.prog 60 #[.slice (some ⟨b, off, none⟩) l.length c] w fun e w' => (∃ v, e = .returned v ∧ OwnO w' w.heap.size 40 v l) ∧ Below w.heap.size w w' := by
  obtain ⟨i0, hi0, hz0, hz1, hz2⟩ := info_parts info_O
  have HO := Lib.hid (show AppO (w.alloc (Obj.cells #[] 40)) w.heap.size 40 (.slice (some ⟨w.heap.size, 0, none⟩) 0 0) [] from AppO.made (Nat.le_refl _) _ _ (by simp [maxLen]) rfl)
  have HR := Lib.hid (hR.alloc (Nat.le_refl _) (Obj.cells #[] 40)); clear hR
  have hb0 : Below w.heap.size w (w.alloc (Obj.cells #[] 40)) := by (repeat' (first | (with_reducible exact Below.refl _ _) | (with_reducible assumption) | (with_reducible refine Below.al ?_ _) | (with_reducible refine Below.drew ?_) | (with_reducible refine Below.drN ?_ _) | (with_reducible refine Below.via (by with_reducible assumption) ?_) | (with_reducible refine Below.setc ?_ ?_ _) | (with_reducible exact Nat.le_refl _) | (simp; done) | (simp; omega)))
  have HB := Lib.hid hb0; clear hb0
  have hnil := eql_nil (some ⟨b, off, none⟩) l.length c w
  go_enter Try.func60, Try.ntmps60
  go_wp2_with (at_builtin; refine wpList_app_os _ 26 40 i0 rfl _ _ rfl Try.underlying26 hi0 hz0 hz1 hz2 w.heap.size _ _ rfl HO.out _ _ _ _ _ l rfl rfl HR.out (by simp; omega) HB.out.size ?_; intro A2 c2 w2 hO2 hg2 hb2)
  go_ret
  exact ⟨⟨_, rfl, hO2.own⟩, HB.out.trans hb2⟩
set_option maxHeartbeats 400000 in
theorem Clip_Op_any (A : Option Addr) (n c : Nat) (w : World) (hn : n ≤ c) :
    Calls Try.prog 59 #[.slice A n c] w fun e w' => e = .returned (.slice A n n) ∧ w = w' := by
  go_enter Try.func59, Try.ntmps59
  go_wp2
  go_ret
  exact ⟨rfl, rfl⟩

/-! ### SwapAt -/
theorem own_drew {w : World} {base : Nat} {E : TypeId} {v : Value} {l : List O3} (h : OwnO w base E v l) : OwnO w.drew base E v l := OwnG.kept h (fun k _ => rfl)
theorem set_two {l : List O3} {k : Nat} (hk : k + 1 < l.length) : (l.set k l[k + 1])[k + 1]'(by simpa using hk) = l[k + 1] := by simp
set_option maxHeartbeats 1000000 in
theorem spec_SwapAt_any (A : Option Addr) (c : Nat) (l : List O3) (i : Int) (w : World) (hl : l.length ≤ 1048576) (hc : l.length ≤ c) (hR : RdO w w.heap.size A l) :
    Calls Try.prog 29 #[.slice A l.length c, .int .i64 i] w fun e w' => (∃ v, e = .returned (.tuple #[v, .bool (swapOk l i)]) ∧ OwnO w' w.heap.size 40 v (swapV l i)) ∧ Below w.heap.size w w' := by
  obtain ⟨i0, hi0, hz0, hz1, hz2⟩ := info_parts info_O
  have HM := Lib.hid (show l.length ≤ maxLen by unfold maxLen; omega)
  have HR := Lib.hid hR
  rcases Bool.eq_false_or_eq_true (tt (ValidP l)) with hv | hv
  all_goals have HV := Lib.hid hv; clear hv
  · rcases Bool.eq_false_or_eq_true (inR i 0 ((l.length : Int) - 2)) with hr | hr
    · obtain ⟨k, rfl, hk⟩ := rng_of hr
      have HI := Lib.hid hr; clear hr
      have hkl : k < l.length := by omega
      obtain ⟨b, off, rfl, hb, h0, h1, h2⟩ := hR.at_ hkl
      obtain ⟨b', off', e', hb', h0', h1', h2'⟩ := hR.at_ hk
      simp only [Option.some.injEq, Addr.mk.injEq, and_true] at e'
      obtain ⟨rfl, rfl⟩ := e'
      clear hR
      have hcf : conflS l[k] l[k + 1] = conflB l[k] l[k + 1] := confl_same ((tt_eq.1 HV.out).2 k hkl).2.1 ((tt_eq.1 HV.out).2 (k + 1) hk).2.1
      rcases or2 (l[k].tx == l[k + 1].tx) (conflS l[k] l[k + 1]) with e1 | ⟨e1, e2⟩ | ⟨e1, e2⟩
      · have hs := swap_no (l := l) (i := k) (fun ⟨_, k', e, hk', h3, h4⟩ => by
          obtain rfl : k = k' := by omega
          exact h3 (by simpa using e1))
        rw [hs.1, hs.2]
        go_enter Try.func29, Try.ntmps29
        go_wp2_with fail
        ((first | (with_reducible refine wp_region_from (by with_reducible assumption) follows (by kernel_rfl) ?_) | (refine wp_region_aft follows (by kernel_rfl) ?_)); (repeat (go_big_quiet_step (first | (go_at_call 37; exact aftb (spec_validSchedule_any _ _ _ _ HM.out (HR.out.on (After.below _))) (HV.out)) | (go_at_call 61; exact aftb_same (spec_inRange_any _ _ _ _) (HI.out))))); refine wpQuiet_nil ?_; intro _ hw'; obtain ⟨⟨w1, hb⟩, rfl⟩ := hw'; (try dsimp only); first | (replace hb := Below.via hb (by with_reducible assumption); (try clear hbc hbf hbz); obtain ⟨hbc, hbf, hbz⟩ := bcell hb) | (obtain ⟨hbc, hbf, hbz⟩ := bcell hb))
        go_wp2
        go_ret2
        exact ⟨⟨_, rfl, OwnO.nil_⟩, by (repeat' (first | (with_reducible exact Below.refl _ _) | (with_reducible assumption) | (with_reducible refine Below.al ?_ _) | (with_reducible refine Below.drew ?_) | (with_reducible refine Below.drN ?_ _) | (with_reducible refine Below.via (by with_reducible assumption) ?_) | (with_reducible refine Below.setc ?_ ?_ _) | (with_reducible exact Nat.le_refl _) | (simp; done) | (simp; omega)))⟩
      · have HC := Lib.hid e2; clear e2
        have HT := Lib.hid e1
        have hp : SwapP l k := ⟨tt_eq.1 HV.out, k, rfl, hk, by simpa using e1, by rw [← hcf]; exact HC.out⟩
        have hs := swap_yes hp hk
        rw [hs.1, hs.2]
        clear hs hp
        go_enter Try.func29, Try.ntmps29
        go_wp2_with fail
        ((first | (with_reducible refine wp_region_from (by with_reducible assumption) follows (by kernel_rfl) ?_) | (refine wp_region_aft follows (by kernel_rfl) ?_)); (repeat (go_big_quiet_step (first | (go_at_call 37; exact aftb (spec_validSchedule_any _ _ _ _ HM.out (HR.out.on (After.below _))) (HV.out)) | (go_at_call 61; exact aftb_same (spec_inRange_any _ _ _ _) (HI.out)) | (go_at_call 51; exact aftb (spec_conflict_any _ _ _ _ _ _ _) (HC.out))))); refine wpQuiet_nil ?_; intro _ hw'; obtain ⟨⟨w1, hb⟩, rfl⟩ := hw'; (try dsimp only); first | (replace hb := Below.via hb (by with_reducible assumption); (try clear hbc hbf hbz); obtain ⟨hbc, hbf, hbz⟩ := bcell hb) | (obtain ⟨hbc, hbf, hbz⟩ := bcell hb))
        go_wp2_with (at_builtin; refine wpList_app_os _ 26 40 i0 rfl _ _ rfl Try.underlying26 hi0 hz0 hz1 hz2 w.heap.size _ _ rfl (AppO.made hb.size _ _ (by simp [maxLen]) rfl) _ _ _ _ _ l rfl rfl ((HR.out.on hb).alloc (Nat.le_refl _) _) (by simp; omega) (by simp; have := hb.size; omega) ?_; intro A2 c2 w2 hO2 hg2 hb2; (simp only [List.nil_append] at hO2 ⊢); have hbx : Below w.heap.size w w2 := (Below.alloc hb hb.size _).trans hb2; clear hb2 hg2 hbc hbf hbz hb; obtain ⟨hbc, hbf, hbz⟩ := bcell hbx; obtain ⟨g, cap, e, -⟩ := OwnO.at_ hO2.own hkl; injection e with ea eb ec; subst ea ec; obtain ⟨hg1, hg2, g0, g1, g2, hgf⟩ := OwnO.cells hO2.own hkl; obtain ⟨-, -, g0', g1', g2', -⟩ := OwnO.cells hO2.own hk; have HO := Lib.hid hO2.own; clear hO2)
        go_ret2
        refine ⟨⟨_, rfl, ?_⟩, by (repeat' (first | (with_reducible exact Below.refl _ _) | (with_reducible assumption) | (with_reducible refine Below.al ?_ _) | (with_reducible refine Below.drew ?_) | (with_reducible refine Below.drN ?_ _) | (with_reducible refine Below.via (by with_reducible assumption) ?_) | (with_reducible refine Below.setc ?_ ?_ _) | (with_reducible exact Nat.le_refl _) | (simp; done) | (simp; omega)))⟩
        exact OwnO.set3 (OwnO.set3 HO.out rfl hkl _ _ _) (by simp) (by simpa using hk) _ _ _
      · have HC := Lib.hid e2; clear e2
        have hs := swap_no (l := l) (i := k) (fun ⟨_, k', e, hk', h3, h4⟩ => by
          obtain rfl : k = k' := by omega
          rw [← hcf, HC.out] at h4
          cases h4)
        rw [hs.1, hs.2]
        clear hs
        go_enter Try.func29, Try.ntmps29
        go_wp2_with fail
        ((first | (with_reducible refine wp_region_from (by with_reducible assumption) follows (by kernel_rfl) ?_) | (refine wp_region_aft follows (by kernel_rfl) ?_)); (repeat (go_big_quiet_step (first | (go_at_call 37; exact aftb (spec_validSchedule_any _ _ _ _ HM.out (HR.out.on (After.below _))) (HV.out)) | (go_at_call 61; exact aftb_same (spec_inRange_any _ _ _ _) (HI.out)) | (go_at_call 51; exact aftb (spec_conflict_any _ _ _ _ _ _ _) (HC.out))))); refine wpQuiet_nil ?_; intro _ hw'; obtain ⟨⟨w1, hb⟩, rfl⟩ := hw'; (try dsimp only); first | (replace hb := Below.via hb (by with_reducible assumption); (try clear hbc hbf hbz); obtain ⟨hbc, hbf, hbz⟩ := bcell hb) | (obtain ⟨hbc, hbf, hbz⟩ := bcell hb))
        go_wp2
        go_ret2
        exact ⟨⟨_, rfl, OwnO.nil_⟩, by (repeat' (first | (with_reducible exact Below.refl _ _) | (with_reducible assumption) | (with_reducible refine Below.al ?_ _) | (with_reducible refine Below.drew ?_) | (with_reducible refine Below.drN ?_ _) | (with_reducible refine Below.via (by with_reducible assumption) ?_) | (with_reducible refine Below.setc ?_ ?_ _) | (with_reducible exact Nat.le_refl _) | (simp; done) | (simp; omega)))⟩
    · have hs := swap_no (rng_no hr)
      rw [hs.1, hs.2]
      clear hs
      have HI := Lib.hid hr; clear hr
      go_enter Try.func29, Try.ntmps29
      go_wp2_with fail
      ((first | (with_reducible refine wp_region_from (by with_reducible assumption) follows (by kernel_rfl) ?_) | (refine wp_region_aft follows (by kernel_rfl) ?_)); (repeat (go_big_quiet_step (first | (go_at_call 37; exact aftb (spec_validSchedule_any _ _ _ _ HM.out (HR.out.on (After.below _))) (HV.out)) | (go_at_call 61; exact aftb_same (spec_inRange_any _ _ _ _) (HI.out))))); refine wpQuiet_nil ?_; intro _ hw'; obtain ⟨⟨w1, hb⟩, rfl⟩ := hw'; (try dsimp only); first | (replace hb := Below.via hb (by with_reducible assumption); (try clear hbc hbf hbz); obtain ⟨hbc, hbf, hbz⟩ := bcell hb) | (obtain ⟨hbc, hbf, hbz⟩ := bcell hb))
      go_wp2
      go_ret2
      exact ⟨⟨_, rfl, OwnO.nil_⟩, by (repeat' (first | (with_reducible exact Below.refl _ _) | (with_reducible assumption) | (with_reducible refine Below.al ?_ _) | (with_reducible refine Below.drew ?_) | (with_reducible refine Below.drN ?_ _) | (with_reducible refine Below.via (by with_reducible assumption) ?_) | (with_reducible refine Below.setc ?_ ?_ _) | (with_reducible exact Nat.le_refl _) | (simp; done) | (simp; omega)))⟩
  · have hs := swap_no (l := l) (i := i) (fun h => by have := HV.out; rw [tt_true h.1] at this; cases this)
    rw [hs.1, hs.2]
    clear hs
    go_enter Try.func29, Try.ntmps29
    go_wp2_with fail
    ((first | (with_reducible refine wp_region_from (by with_reducible assumption) follows (by kernel_rfl) ?_) | (refine wp_region_aft follows (by kernel_rfl) ?_)); (repeat (go_big_quiet_step ((go_at_call 37; exact aftb (spec_validSchedule_any _ _ _ _ HM.out (HR.out.on (After.below _))) (HV.out))))); refine wpQuiet_nil ?_; intro _ hw'; obtain ⟨⟨w1, hb⟩, rfl⟩ := hw'; (try dsimp only); first | (replace hb := Below.via hb (by with_reducible assumption); (try clear hbc hbf hbz); obtain ⟨hbc, hbf, hbz⟩ := bcell hb) | (obtain ⟨hbc, hbf, hbz⟩ := bcell hb))
    go_wp2
    go_ret2
    exact ⟨⟨_, rfl, OwnO.nil_⟩, by (repeat' (first | (with_reducible exact Below.refl _ _) | (with_reducible assumption) | (with_reducible refine Below.al ?_ _) | (with_reducible refine Below.drew ?_) | (with_reducible refine Below.drN ?_ _) | (with_reducible refine Below.via (by with_reducible assumption) ?_) | (with_reducible refine Below.setc ?_ ?_ _) | (with_reducible exact Nat.le_refl _) | (simp; done) | (simp; omega)))⟩
set_option maxHeartbeats 1000000 in
theorem impl_SwapAt_any (A : Option Addr) (c : Nat) (l : List O3) (i : Int) (w : World) (hl : l.length ≤ 1048576) (hc : l.length ≤ c) (hR : RdO w w.heap.size A l) :
    Calls Try.prog 28 #[.slice A l.length c, .int .i64 i] w fun e w' => (∃ v, e = .returned (.tuple #[v, .bool (swapOk l i)]) ∧ OwnO w' w.heap.size 40 v (swapV l i)) ∧ Below w.heap.size w w' := by
  obtain ⟨i0, hi0, hz0, hz1, hz2⟩ := info_parts info_O
  have HM := Lib.hid (show l.length ≤ maxLen by unfold maxLen; omega)
  have HR := Lib.hid hR
  rcases Bool.eq_false_or_eq_true (tt (ValidP l)) with hv | hv
  all_goals have HV := Lib.hid hv; clear hv
  · rcases Bool.eq_false_or_eq_true (inR i 0 ((l.length : Int) - 2)) with hr | hr
    · obtain ⟨k, rfl, hk⟩ := rng_of hr
      have HI := Lib.hid hr; clear hr
      have hkl : k < l.length := by omega
      obtain ⟨b, off, rfl, hb, h0, h1, h2⟩ := hR.at_ hkl
      obtain ⟨b', off', e', hb', h0', h1', h2'⟩ := hR.at_ hk
      simp only [Option.some.injEq, Addr.mk.injEq, and_true] at e'
      obtain ⟨rfl, rfl⟩ := e'
      clear hR
      have hcf : conflS l[k] l[k + 1] = conflB l[k] l[k + 1] := confl_same ((tt_eq.1 HV.out).2 k hkl).2.1 ((tt_eq.1 HV.out).2 (k + 1) hk).2.1
      rcases or2 (l[k].tx == l[k + 1].tx) (conflB l[k] l[k + 1]) with e1 | ⟨e1, e2⟩ | ⟨e1, e2⟩
      · have hs := swap_no (l := l) (i := k) (fun ⟨_, k', e, hk', h3, h4⟩ => by
          obtain rfl : k = k' := by omega
          exact h3 (by simpa using e1))
        rw [hs.1, hs.2]
        go_enter Try.func28, Try.ntmps28
        go_wp2_with fail
        ((first | (with_reducible refine wp_region_from (by with_reducible assumption) follows (by kernel_rfl) ?_) | (refine wp_region_aft follows (by kernel_rfl) ?_)); (repeat (go_big_quiet_step (first | (go_at_call 21; exact aftb (impl_ValidSchedule_any _ _ _ _ HM.out hc (HR.out.on (After.below _))) (HV.out)) | (go_at_call 58; exact aftb_same (impl_within_any _ _ _ _) (HI.out))))); refine wpQuiet_nil ?_; intro _ hw'; obtain ⟨⟨w1, hb⟩, rfl⟩ := hw'; (try dsimp only); first | (replace hb := Below.via hb (by with_reducible assumption); (try clear hbc hbf hbz); obtain ⟨hbc, hbf, hbz⟩ := bcell hb) | (obtain ⟨hbc, hbf, hbz⟩ := bcell hb))
        go_wp2
        go_ret2
        exact ⟨⟨_, rfl, OwnO.nil_⟩, by (repeat' (first | (with_reducible exact Below.refl _ _) | (with_reducible assumption) | (with_reducible refine Below.al ?_ _) | (with_reducible refine Below.drew ?_) | (with_reducible refine Below.drN ?_ _) | (with_reducible refine Below.via (by with_reducible assumption) ?_) | (with_reducible refine Below.setc ?_ ?_ _) | (with_reducible exact Nat.le_refl _) | (simp; done) | (simp; omega)))⟩
      · have HC := Lib.hid e2; clear e2
        have HT := Lib.hid e1
        have hp : SwapP l k := ⟨tt_eq.1 HV.out, k, rfl, hk, by simpa using e1, HC.out⟩
        have hs := swap_yes hp hk
        rw [hs.1, hs.2]
        clear hs hp
        go_enter Try.func28, Try.ntmps28
        go_wp2_with fail
        ((first | (with_reducible refine wp_region_from (by with_reducible assumption) follows (by kernel_rfl) ?_) | (refine wp_region_aft follows (by kernel_rfl) ?_)); (repeat (go_big_quiet_step (first | (go_at_call 21; exact aftb (impl_ValidSchedule_any _ _ _ _ HM.out hc (HR.out.on (After.below _))) (HV.out)) | (go_at_call 58; exact aftb_same (impl_within_any _ _ _ _) (HI.out)) | (go_at_call 48; exact aftb (impl_conflicts_any _ _ _ _ _ _ _) (HC.out))))); refine wpQuiet_nil ?_; intro _ hw'; obtain ⟨⟨w1, hb⟩, rfl⟩ := hw'; (try dsimp only); first | (replace hb := Below.via hb (by with_reducible assumption); (try clear hbc hbf hbz); obtain ⟨hbc, hbf, hbz⟩ := bcell hb) | (obtain ⟨hbc, hbf, hbz⟩ := bcell hb))
        go_wp2_with fail
        refine (Clone_Op_any _ _ _ _ _ hl (HR.out.on hb)).mono ?_
        rintro e w2 ⟨⟨v, rfl, hO2⟩, hb2⟩
        have hbx : Below w.heap.size w w2 := Below.via hb2 hb
        have hO3 := OwnG.low hO2 hb.size
        clear hb2 hbc hbf hbz hb hO2
        obtain ⟨hbc, hbf, hbz⟩ := bcell hbx
        obtain ⟨g, cap, rfl, -⟩ := OwnO.at_ hO3 hkl
        have hcap : l.length ≤ cap := by
          obtain ⟨A9, c9, e9, h9, -⟩ := OwnO.reads hO3
          injection e9 with _ _ e9
          omega
        have hO4 := OwnO.cut hO3 rfl
        clear hO3
        go_wp2_with (go_at_call 59; refine (Clip_Op_any _ _ _ _ hcap).mono ?_; rintro e w3 ⟨rfl, rfl⟩)
        obtain ⟨hg1, hg2, g0, g1, g2, hgf⟩ := OwnO.cells hO4 hkl
        obtain ⟨-, -, g0', g1', g2', -⟩ := OwnO.cells hO4 hk
        have HO := Lib.hid hO4
        clear hO4
        go_region
        all_goals go_wp2
        all_goals
          go_ret2
          refine ⟨⟨_, rfl, ?_⟩, by (repeat' (first | (with_reducible exact Below.refl _ _) | (with_reducible assumption) | (with_reducible refine Below.al ?_ _) | (with_reducible refine Below.drew ?_) | (with_reducible refine Below.drN ?_ _) | (with_reducible refine Below.via (by with_reducible assumption) ?_) | (with_reducible refine Below.setc ?_ ?_ _) | (with_reducible exact Nat.le_refl _) | (simp; done) | (simp; omega)))⟩
          exact own_drew (OwnO.set3 (OwnO.set3 HO.out rfl hkl _ _ _) (by simp) (by simpa using hk) _ _ _)
      · have HC := Lib.hid e2; clear e2
        have hs := swap_no (l := l) (i := k) (fun ⟨_, k', e, hk', h3, h4⟩ => by
          obtain rfl : k = k' := by omega
          rw [HC.out] at h4
          cases h4)
        rw [hs.1, hs.2]
        clear hs
        go_enter Try.func28, Try.ntmps28
        go_wp2_with fail
        ((first | (with_reducible refine wp_region_from (by with_reducible assumption) follows (by kernel_rfl) ?_) | (refine wp_region_aft follows (by kernel_rfl) ?_)); (repeat (go_big_quiet_step (first | (go_at_call 21; exact aftb (impl_ValidSchedule_any _ _ _ _ HM.out hc (HR.out.on (After.below _))) (HV.out)) | (go_at_call 58; exact aftb_same (impl_within_any _ _ _ _) (HI.out)) | (go_at_call 48; exact aftb (impl_conflicts_any _ _ _ _ _ _ _) (HC.out))))); refine wpQuiet_nil ?_; intro _ hw'; obtain ⟨⟨w1, hb⟩, rfl⟩ := hw'; (try dsimp only); first | (replace hb := Below.via hb (by with_reducible assumption); (try clear hbc hbf hbz); obtain ⟨hbc, hbf, hbz⟩ := bcell hb) | (obtain ⟨hbc, hbf, hbz⟩ := bcell hb))
        go_wp2
        go_ret2
        exact ⟨⟨_, rfl, OwnO.nil_⟩, by (repeat' (first | (with_reducible exact Below.refl _ _) | (with_reducible assumption) | (with_reducible refine Below.al ?_ _) | (with_reducible refine Below.drew ?_) | (with_reducible refine Below.drN ?_ _) | (with_reducible refine Below.via (by with_reducible assumption) ?_) | (with_reducible refine Below.setc ?_ ?_ _) | (with_reducible exact Nat.le_refl _) | (simp; done) | (simp; omega)))⟩
    · have hs := swap_no (rng_no hr)
      rw [hs.1, hs.2]
      clear hs
      have HI := Lib.hid hr; clear hr
      go_enter Try.func28, Try.ntmps28
      go_wp2_with fail
      ((first | (with_reducible refine wp_region_from (by with_reducible assumption) follows (by kernel_rfl) ?_) | (refine wp_region_aft follows (by kernel_rfl) ?_)); (repeat (go_big_quiet_step (first | (go_at_call 21; exact aftb (impl_ValidSchedule_any _ _ _ _ HM.out hc (HR.out.on (After.below _))) (HV.out)) | (go_at_call 58; exact aftb_same (impl_within_any _ _ _ _) (HI.out))))); refine wpQuiet_nil ?_; intro _ hw'; obtain ⟨⟨w1, hb⟩, rfl⟩ := hw'; (try dsimp only); first | (replace hb := Below.via hb (by with_reducible assumption); (try clear hbc hbf hbz); obtain ⟨hbc, hbf, hbz⟩ := bcell hb) | (obtain ⟨hbc, hbf, hbz⟩ := bcell hb))
      go_wp2
      go_ret2
      exact ⟨⟨_, rfl, OwnO.nil_⟩, by (repeat' (first | (with_reducible exact Below.refl _ _) | (with_reducible assumption) | (with_reducible refine Below.al ?_ _) | (with_reducible refine Below.drew ?_) | (with_reducible refine Below.drN ?_ _) | (with_reducible refine Below.via (by with_reducible assumption) ?_) | (with_reducible refine Below.setc ?_ ?_ _) | (with_reducible exact Nat.le_refl _) | (simp; done) | (simp; omega)))⟩
  · have hs := swap_no (l := l) (i := i) (fun h => by have := HV.out; rw [tt_true h.1] at this; cases this)
    rw [hs.1, hs.2]
    clear hs
    go_enter Try.func28, Try.ntmps28
    go_wp2_with fail
    ((first | (with_reducible refine wp_region_from (by with_reducible assumption) follows (by kernel_rfl) ?_) | (refine wp_region_aft follows (by kernel_rfl) ?_)); (repeat (go_big_quiet_step ((go_at_call 21; exact aftb (impl_ValidSchedule_any _ _ _ _ HM.out hc (HR.out.on (After.below _))) (HV.out))))); refine wpQuiet_nil ?_; intro _ hw'; obtain ⟨⟨w1, hb⟩, rfl⟩ := hw'; (try dsimp only); first | (replace hb := Below.via hb (by with_reducible assumption); (try clear hbc hbf hbz); obtain ⟨hbc, hbf, hbz⟩ := bcell hb) | (obtain ⟨hbc, hbf, hbz⟩ := bcell hb))
    go_wp2
    go_ret2
    exact ⟨⟨_, rfl, OwnO.nil_⟩, by (repeat' (first | (with_reducible exact Below.refl _ _) | (with_reducible assumption) | (with_reducible refine Below.al ?_ _) | (with_reducible refine Below.drew ?_) | (with_reducible refine Below.drN ?_ _) | (with_reducible refine Below.via (by with_reducible assumption) ?_) | (with_reducible refine Below.setc ?_ ?_ _) | (with_reducible exact Nat.le_refl _) | (simp; done) | (simp; omega)))⟩
end Go.Proofs.Ytaflkbemecjcpaa
