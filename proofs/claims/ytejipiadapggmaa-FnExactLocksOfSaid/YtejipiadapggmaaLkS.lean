/- A schedule with locks: contract of the reference's LocksOf. -/
import Derived.Test.YtejipiadapggmaaLkM
import Derived.Deep.AppendLies
import Derived.Deep.RegionLaw
import Derived.Deep.CutRange
namespace Go.Proofs.Ytejipiadapggmaa
set_option linter.unusedSimpArgs false
set_option linter.unusedVariables false
open Go.RowKit
theorem hox {W : World} {B : Nat} {E : TypeId} {v : Value} {O : List O3} (h : AppO W B E v O) (a b c : Int) : AppO (W.alloc (.cells #[.int .i64 a, .int .i64 b, .int .i64 c] E)).drew B E v O := AppO.alloc h _
theorem hnx (W : World) (E : TypeId) (a b c : Int) : ∀ j u, (cellsO [⟨a, b, c⟩])[j]? = some u → (W.alloc (.cells #[.int .i64 a, .int .i64 b, .int .i64 c] E)).drew.cell? ((⟨W.heap.size, 0, none⟩ : Addr).add j) = some u := fun j u hj => by
  rw [addr_add, Nat.zero_add]
  show (W.alloc (.cells #[.int .i64 a, .int .i64 b, .int .i64 c] E)).cell? ⟨W.heap.size, j, none⟩ = some u
  rw [World.cell?_alloc_new]
  simpa [cellsO] using hj
section
variable {P : Program} {ops : Array Oper} {rest : List Oper} {o : Oper} {a : Act} {Q : Exit → Act → World → Prop}
/-- append of one struct in a region that draws: its one-cell row was made in a world that then drew. -/
theorem wpList_app_od (W : World) (T E : TypeId) (i : TypeInfo) (hgd : o.guard = none) (s x : Operand)
    (ho : o.op = .call { callee := .builtin .append, args := #[s, x], argTypes := #[T, T] })
    (ht : P.underlying T = some (.slice E)) (hi : P.info? E = some i) (hz : i.zero = some (.agg #[.int .i64 0, .int .i64 0, .int .i64 0])) (hsize : i.size = 3) (hby : i.bytes = 24)
    (base : Nat) (v : Value) (l : List O3) (hs : a.eval s = v) (hown : AppO W base E v l)
    (p : O3) (g : Nat) (hx : a.eval x = .slice (some ⟨g, 0, none⟩) 1 1) (hgW : g = W.heap.size) (hlen : l.length ≤ 4194304) (hbase : base ≤ W.heap.size)
    (h : ∀ A' c' w', AppO w' base E (.slice A' (l.length + 1) c') (l ++ [p]) → Below base W w' → wpList P ops Q rest (a.put o.dst (.slice A' (l.length + 1) c')) w') :
    wpList P ops Q (o :: rest) a (W.alloc (.cells #[.int .i64 p.tx, .int .i64 p.kind, .int .i64 p.item] E)).drew := by
  subst hgW
  refine wpList_append_own _ hgd s x T ho base E i _ 3 24 ht hi hz hsize hby rfl (by decide) v l.length (cellsO l) hs (hox hown p.tx p.kind p.item) ⟨W.heap.size, 0, none⟩ 1 1 (cellsO [p]) hx rfl (hnx W E p.tx p.kind p.item) (cellsO_one _) ?_ ?_ ?_ ?_
  · unfold maxLen; omega
  · omega
  · show base ≤ (W.alloc _).heap.size
    simp; omega
  · intro v' w' h1 h2 _
    obtain ⟨A', c', rfl, _⟩ := row_form h1
    refine h A' c' w' (by unfold AppO; rw [List.length_append, cellsO_append]; exact h1) ?_
    refine Below.grown (Below.drew ((Below.refl _ _).alloc hbase _)) h2 (by show base ≤ (W.alloc _).heap.size; simp; omega) (fun k hk => ?_)
    exact (hown.lt k hk).1
end
set_option maxRecDepth 100000 in
set_option maxHeartbeats 4000000 in
theorem spec_LocksOf_any (A : Option Addr) (c : Nat) (l : List O3) (w : World) (hl : l.length ≤ 1048576) (hc : l.length ≤ c) (hR : RdO w w.heap.size A l) :
    Calls Try.prog 26 #[.slice A l.length c] w fun e w' => (∃ v, e = .returned v ∧ OwnO w' w.heap.size 49 v (lkV l)) ∧ Below w.heap.size w w' := by
  have HM := Lib.hid (show l.length ≤ maxLen by unfold maxLen; omega)
  obtain ⟨i0, hi0, hz0, hz1, hz2⟩ := info_parts info_S
  cases hv : tt (ValidP l)
  · have hs : lkV l = [] := by unfold lkV lkOk; rw [hv]; rfl
    rw [hs]
    have HV := Lib.hid hv; clear hv hs
    go_enter Try.func26, Try.ntmps26
    go_wp2_with (go_at_call 38; refine (spec_validSchedule_any _ _ _ _ HM.out hR).mono ?_; rintro e w1 ⟨rfl, hb1⟩; rw [HV.out])
    go_ret
    exact ⟨⟨_, rfl, OwnO.nil_⟩, by (repeat' (first | (with_reducible exact Below.refl _ _) | (with_reducible assumption) | (with_reducible refine Below.al ?_ _) | (with_reducible refine Below.drew ?_) | (with_reducible refine Below.drN ?_ _) | (with_reducible refine Below.via (by with_reducible assumption) ?_) | (with_reducible refine Below.setc ?_ ?_ _) | (with_reducible exact Nat.le_refl _) | (simp; done) | (simp; omega)))⟩
  · have HV := Lib.hid hv
    by_cases h12 : 12 < l.length
    · have hs : lkV l = [] := by unfold lkV lkOk; rw [hv]; simp; omega
      rw [hs]
      clear hv hs
      have h12' : (12 : Int) < (l.length : Int) := by omega
      go_enter Try.func26, Try.ntmps26
      go_wp2_with (go_at_call 38; refine (spec_validSchedule_any _ _ _ _ HM.out hR).mono ?_; rintro e w1 ⟨rfl, hb1⟩; rw [HV.out])
      go_ret
      exact ⟨⟨_, rfl, OwnO.nil_⟩, by (repeat' (first | (with_reducible exact Below.refl _ _) | (with_reducible assumption) | (with_reducible refine Below.al ?_ _) | (with_reducible refine Below.drew ?_) | (with_reducible refine Below.drN ?_ _) | (with_reducible refine Below.via (by with_reducible assumption) ?_) | (with_reducible refine Below.setc ?_ ?_ _) | (with_reducible exact Nat.le_refl _) | (simp; done) | (simp; omega)))⟩
    · have hs : lkV l = lkTo l l.length := by unfold lkV lkOk; rw [hv]; simp; omega
      rw [hs]
      have hP : ValidP l := tt_eq.1 hv
      have HVA := Lib.hid (fun o (ho : o ∈ l) => show validB o = true by obtain ⟨k, hk, rfl⟩ := List.getElem_of_mem ho; exact (hP.2 k hk).2.1)
      clear hv hs hP
      have h12' : ¬ (12 : Int) < (l.length : Int) := by omega
      go_enter Try.func26, Try.ntmps26
      go_wp2_with (go_at_call 38; refine (spec_validSchedule_any _ _ _ _ HM.out hR).mono ?_; rintro e w1 ⟨rfl, hb1⟩; rw [HV.out])
      have hB0 : Below w.heap.size w (w1.alloc (Obj.cells #[] 49)) := by (repeat' (first | (with_reducible exact Below.refl _ _) | (with_reducible assumption) | (with_reducible refine Below.al ?_ _) | (with_reducible refine Below.drew ?_) | (with_reducible refine Below.drN ?_ _) | (with_reducible refine Below.via (by with_reducible assumption) ?_) | (with_reducible refine Below.setc ?_ ?_ _) | (with_reducible exact Nat.le_refl _) | (simp; done) | (simp; omega)))
      have hO0 : AppO (w1.alloc (Obj.cells #[] 49)) w.heap.size 49 (.slice (some ⟨w1.heap.size, 0, none⟩) 0 0) [] := AppO.made hb1.size _ _ (by simp [maxLen]) rfl
      go_loopw [3, 4, 5, 6] (fun v3 v4 _ _ wr => ∃ (k : Nat) (A' : Option Addr) (c' : Nat), k ≤ l.length ∧ v4 = .int .i64 k ∧ v3 = .slice A' (lkTo l k).length c' ∧ AppO wr w.heap.size 49 (.slice A' (lkTo l k).length c') (lkTo l k) ∧ Below w.heap.size w wr) (fun _ v4 _ _ _ => l.length - (intOf v4).toNat)
      case atStart => exact ⟨0, _, _, Nat.zero_le _, rfl, rfl, hO0, hB0⟩
      case round =>
        obtain ⟨k, A', c', hk, rfl, rfl, hown, hbw⟩ := hrel
        have HO := Lib.hid hown; clear hown hO0
        have HB := Lib.hid hbw; clear hbw hB0
        have hle := lk_le l k
        have hl4 : (lkTo l k).length ≤ 4194304 := by omega
        have HLM := Lib.hid (show (lkTo l k).length ≤ maxLen by unfold maxLen; omega)
        by_cases hlt : k < l.length
        · have HR1 := Lib.hid (hR.on HB.out)
          obtain ⟨b, off, rfl, hb, h0, h1, h2⟩ := HR1.out.at_ hlt
          obtain ⟨⟨t0, t3⟩, ⟨x0, x3⟩, hkk⟩ := valid_parts (HVA.out _ (List.getElem_mem hlt))
          have HAL := Lib.hid (lk_all HVA.out k)
          cases he : endB l[k]
          · have HE := Lib.hid he
            have hk2 := hkk he
            have HN := Lib.hid (lk_acc hlt he)
            have HW := Lib.hid (show IntKind.i64.wrap (3 + l[k].kind) = 3 + l[k].kind by rw [IntKind.wrap_i64]; omega)
            clear he hkk
            obtain ⟨wo, hwo⟩ : ∃ wo : World, wo = wr := ⟨_, rfl⟩
            subst hwo
            go_wp2_with fail
            go_loopw [3, 5] (fun v3 v5 wr => v3 = .slice A' (lkTo l k).length c' ∧ v5 = .int .i64 0 ∧ wr = wo) (fun _ _ _ => 0)
            case atStart => exact ⟨rfl, rfl, rfl⟩
            case round =>
              obtain ⟨rfl, rfl, rfl⟩ := hrel
              go_wp2_with ((go_at_call 53; refine (spec_ends_any _ _ _ _).mono ?_; rintro e w1 ⟨rfl, hb⟩; first | (replace hb := Below.via hb (by with_reducible assumption); (try clear hbc hbf hbz); obtain ⟨hbc, hbf, hbz⟩ := bcell hb) | (obtain ⟨hbc, hbf, hbz⟩ := bcell hb)); rw [HE.out])
              ((first | (with_reducible refine wp_region_from (by with_reducible assumption) follows (by kernel_rfl) ?_) | (refine wp_region_aft follows (by kernel_rfl) ?_)); (repeat (go_big_quiet_step ((go_at_call 49; exact aft_same (spec_held_any _ _ (lkTo l k) _ _ _ _ (Nat.le_refl _) HLM.out ((AppO.own HO.out).rd.on (After.below _))))))); refine wpQuiet_nil ?_; intro _ hw'; obtain ⟨⟨w1, hb⟩, rfl⟩ := hw'; (try dsimp only); first | (replace hb := Below.via hb (by with_reducible assumption); (try clear hbc hbf hbz); obtain ⟨hbc, hbf, hbz⟩ := bcell hb) | (obtain ⟨hbc, hbf, hbz⟩ := bcell hb))
              rename_i w5
              have B5 := Lib.hid (Below.trans HB.out (hb.mono HB.out.size))
              have O5 := Lib.hid (HO.out.on hb)
              clear hb hbc hbf hbz h0 h1 h2
              have R5 := Lib.hid (hR.on B5.out)
              obtain ⟨b5, off5, he5, hb5, s05, s15, s25⟩ := R5.out.at_ hlt
              injection he5 with he5; injection he5 with e15 e25
              subst e15 e25
              go_upto_if 79 with fail
              go_cut [3] from 16 to 118 (fun v3 wx => ∃ A6 c6, v3 = .slice A6 (lkMid (lkTo l k) l[k]).length c6 ∧ AppO wx w.heap.size 49 (.slice A6 (lkMid (lkTo l k) l[k]).length c6) (lkMid (lkTo l k) l[k]) ∧ Below w.heap.size w wx)
              case first =>
                by_cases hm : heldTo (lkTo l k) l[k].tx l[k].item (lkTo l k).length < l[k].kind
                · have HMID := Lib.hid (mid_yes (out := lkTo l k) (o := l[k]) hm)
                  have HOX6 := Lib.hid (hox O5.out (l[k].tx) (l[k].kind) (l[k].item))
                  have HNX6 := Lib.hid (hnx w5 49 (l[k].tx) (l[k].kind) (l[k].item))
                  have HBX6 := Lib.hid (show Below w.heap.size w (w5.alloc (.cells #[.int .i64 (l[k].tx), .int .i64 (l[k].kind), .int .i64 (l[k].item)] 49)).drew from Below.drew (Below.al B5.out _))
                  have hbx6 := HBX6.out.size
                  go_wp2_with fail
                  go_region_law (refine step_append_lies _ rfl (.tmp 80) (.tmp 97) 26 rfl w.heap.size 49 i0 _ 3 24 Try.underlying26 hi0 hz0 hz1 hz2 rfl (by decide) (.slice A' (lkTo l k).length c') (lkTo l k).length (cellsO (lkTo l k)) (by simp [go_sem]) HOX6.out ⟨w5.heap.size, 0, none⟩ 1 1 (cellsO [⟨l[k].tx, l[k].kind, l[k].item⟩]) (by simp [go_sem]) rfl HNX6.out (cellsO_one _) (by decide) (by unfold maxLen; omega) (by omega) hbx6 _ rfl ?_; intro g6 c6 W6 hO6 hg6 _ _)
                  all_goals (go_wp2_with fail; go_meet; exact ⟨_, c6, by rw [HMID.out, List.length_append]; rfl, by rw [HMID.out]; unfold AppO; rw [List.length_append, cellsO_append]; exact hO6, HBX6.out.grown hg6 hbx6 (fun j hj => (HOX6.out.lt j hj).1)⟩)
                · have HMID := Lib.hid (mid_no (out := lkTo l k) (o := l[k]) hm)
                  go_wp2_with fail
                  go_meet
                  exact ⟨A', c', by rw [HMID.out], by rw [HMID.out]; exact O5.out, B5.out⟩
              case rest =>
                obtain ⟨A6, c6, rfl, hO6, hB6⟩ := hcut
                have O6 := Lib.hid hO6
                have B6 := Lib.hid hB6
                have hl6 := mid_le (lkTo l k) l[k]
                clear hO6 hB6 s05 s15 s25
                have R6 := Lib.hid (hR.on B6.out)
                obtain ⟨b6, off6, he6, hb6, s06, s16, s26⟩ := R6.out.at_ hlt
                injection he6 with he6; injection he6 with e16 e26
                subst e16 e26
                have HOX7 := Lib.hid (hox O6.out (l[k].tx) (IntKind.i64.wrap (3 + l[k].kind)) (l[k].item))
                have HNX7 := Lib.hid (hnx wc 49 (l[k].tx) (IntKind.i64.wrap (3 + l[k].kind)) (l[k].item))
                have HBX7 := Lib.hid (show Below w.heap.size w (wc.alloc (.cells #[.int .i64 (l[k].tx), .int .i64 (IntKind.i64.wrap (3 + l[k].kind)), .int .i64 (l[k].item)] 49)).drew from Below.drew (Below.al B6.out _))
                have hbx7 := HBX7.out.size
                go_wp2_with fail
                go_region_law (refine step_append_lies _ rfl (.tmp 99) (.tmp 117) 26 rfl w.heap.size 49 i0 _ 3 24 Try.underlying26 hi0 hz0 hz1 hz2 rfl (by decide) (.slice A6 (lkMid (lkTo l k) l[k]).length c6) (lkMid (lkTo l k) l[k]).length (cellsO (lkMid (lkTo l k) l[k])) (by simp [go_sem]) HOX7.out ⟨wc.heap.size, 0, none⟩ 1 1 (cellsO [⟨l[k].tx, IntKind.i64.wrap (3 + l[k].kind), l[k].item⟩]) (by simp [go_sem]) rfl HNX7.out (cellsO_one _) (by decide) (by unfold maxLen; omega) (by omega) hbx7 _ rfl ?_; intro g7 c7 W7 hO7 hg7 _ _)
                all_goals go_wp2
                all_goals exact ⟨⟨k + 1, _, c7, by omega, by go_num, by rw [HN.out, List.length_append]; rfl, by rw [HN.out]; unfold AppO; rw [List.length_append, cellsO_append, ← HW.out]; exact hO7, HBX7.out.grown hg7 hbx7 (fun j hj => (HOX7.out.lt j hj).1)⟩, by simp [intOf]; omega⟩
          · have HN := Lib.hid (lk_end hlt he)
            have HE := Lib.hid he
            clear he hkk
            obtain ⟨wo, hwo⟩ : ∃ wo : World, wo = wr := ⟨_, rfl⟩
            subst hwo
            go_wp2_with fail
            go_loopw [3, 5] (fun v3 v5 wr => ∃ (x : Nat) (A' : Option Addr) (c' : Nat), x ≤ 3 ∧ v5 = .int .i64 x ∧ v3 = .slice A' (frTo (lkTo l k) l[k].tx x).length c' ∧ AppO wr w.heap.size 49 (.slice A' (frTo (lkTo l k) l[k].tx x).length c') (frTo (lkTo l k) l[k].tx x) ∧ Below w.heap.size w wr) (fun _ v5 _ => 3 - (intOf v5).toNat)
            case atStart => exact ⟨0, A', c', Nat.zero_le _, rfl, rfl, HO.out, HB.out⟩
            case round =>
              clear h0 h1 h2
              obtain ⟨x, A', c', hx, rfl, rfl, hown, hbw⟩ := hrel
              have HO2 := Lib.hid hown; clear hown
              have HB2 := Lib.hid hbw; clear hbw
              have hfl := fr_le (lkTo l k) l[k].tx x
              have hf4 : (frTo (lkTo l k) l[k].tx x).length ≤ 4194304 := by omega
              have HFM := Lib.hid (show (frTo (lkTo l k) l[k].tx x).length ≤ maxLen by unfold maxLen; omega)
              by_cases hx3 : x < 3
              · have hx3' : (x : Int) < 3 := by omega
                have HR2 := Lib.hid (hR.on HB2.out)
                obtain ⟨b', off', he', hb', h0, h1, h2⟩ := HR2.out.at_ hlt
                injection he' with he'; injection he' with e1 e2
                subst e1 e2
                have HBS := HB2.out.size
                by_cases hm : 0 ≤ heldTo (frTo (lkTo l k) l[k].tx x) l[k].tx x (frTo (lkTo l k) l[k].tx x).length
                · have HF := Lib.hid (fr_yes (out := lkTo l k) (t := l[k].tx) (x := x) hm)
                  go_wp2_with (first
                    | ((go_at_call 53; refine (spec_ends_any _ _ _ _).mono ?_; rintro e w1 ⟨rfl, hb⟩; first | (replace hb := Below.via hb (by with_reducible assumption); (try clear hbc hbf hbz); obtain ⟨hbc, hbf, hbz⟩ := bcell hb) | (obtain ⟨hbc, hbf, hbz⟩ := bcell hb)); rw [HE.out])
                    | (go_at_call 49; refine (spec_held_any _ _ (frTo (lkTo l k) l[k].tx x) _ _ _ _ (Nat.le_refl _) HFM.out (AppO.own (HO2.out.on hb)).rd).mono ?_; rintro e w' ⟨rfl, rfl⟩)
                    | (at_builtin; refine wpList_app_o _ 26 49 i0 rfl _ _ rfl Try.underlying26 hi0 hz0 hz1 hz2 w.heap.size _ _ rfl (HO2.out.on hb) ⟨l[k].tx, 2, x⟩ _ rfl (by first | rfl | simp) hf4 (Nat.le_trans HBS hb.size) ?_; intro A9 c9 w9 hO9 hg9 hb9))
                  exact ⟨⟨x + 1, A9, c9, by omega, by go_num, by rw [HF.out]; simp, by rw [HF.out, List.length_append]; exact hO9, Below.trans (Below.trans HB2.out (hb.mono HBS)) hb9⟩, by simp [intOf]; omega⟩
                · have HF := Lib.hid (fr_no (out := lkTo l k) (t := l[k].tx) (x := x) hm)
                  go_wp2_with (first
                    | ((go_at_call 53; refine (spec_ends_any _ _ _ _).mono ?_; rintro e w1 ⟨rfl, hb⟩; first | (replace hb := Below.via hb (by with_reducible assumption); (try clear hbc hbf hbz); obtain ⟨hbc, hbf, hbz⟩ := bcell hb) | (obtain ⟨hbc, hbf, hbz⟩ := bcell hb)); rw [HE.out])
                    | (go_at_call 49; refine (spec_held_any _ _ (frTo (lkTo l k) l[k].tx x) _ _ _ _ (Nat.le_refl _) HFM.out (AppO.own (HO2.out.on hb)).rd).mono ?_; rintro e w' ⟨rfl, rfl⟩))
                  exact ⟨⟨x + 1, A', c', by omega, by go_num, by rw [HF.out], by rw [HF.out]; exact HO2.out.on hb, Below.trans HB2.out (hb.mono HBS)⟩, by simp [intOf]; omega⟩
              · have hx' : x = 3 := by omega
                subst hx'
                have HR2 := Lib.hid (hR.on HB2.out)
                obtain ⟨b', off', he', hb', h0, h1, h2⟩ := HR2.out.at_ hlt
                injection he' with he'; injection he' with e1 e2
                subst e1 e2
                have HBS := HB2.out.size
                go_wp2_with ((go_at_call 53; refine (spec_ends_any _ _ _ _).mono ?_; rintro e w1 ⟨rfl, hb⟩; first | (replace hb := Below.via hb (by with_reducible assumption); (try clear hbc hbf hbz); obtain ⟨hbc, hbf, hbz⟩ := bcell hb) | (obtain ⟨hbc, hbf, hbz⟩ := bcell hb)); rw [HE.out])
                exact ⟨⟨k + 1, A', c', by omega, by go_num, by rw [HN.out], by rw [HN.out]; exact HO2.out.on hb, Below.trans HB2.out (hb.mono HBS)⟩, by simp [intOf]; omega⟩
        · have hk' : k = l.length := by omega
          have HK := Lib.hid hk'; clear hk'
          go_wp2
          go_ret
          exact ⟨⟨_, rfl, by have h := HO.out.own; rw [HK.out] at h ⊢; exact h⟩, HB.out⟩
end Go.Proofs.Ytejipiadapggmaa
