/- The graph of conflicts: contract of the program's graphOf, which goes over a map of pairs in whatever order. -/
import Derived.Test.YtaflkbemecjcpaaGrS
import Derived.Test.YtaflkbemecjcpaaKeyP
namespace Go.Proofs.Ytaflkbemecjcpaa
set_option linter.unusedSimpArgs false
set_option linter.unusedVariables false
open Go.RowKit Go.Maps
theorem laidAll : laidOutB Try.prog = true := by kernel_rfl
theorem pairT : PairT Try.prog 74 where
  law := Keyed.of_law (deep_law_laid laidAll (m := 2) (by omega) (of_decide_eq_true (by kernel_rfl)) (by kernel_rfl) (by rw [Try.underlying74]))
  ty := by kernel_rfl
  row := ⟨_, _, Try.underlying74, by decide, by decide, Try.underlying3, Try.underlying3, rfl, rfl, by kernel_rfl, by kernel_rfl⟩
  cells := by kernel_rfl
  some_ := ⟨Try.prog.types.size - 1, (Nat.sub_add_cancel (of_decide_eq_true (by kernel_rfl))).symm⟩
theorem bool_inv {P : Program} {e : TypeId} (he : P.underlying e = some .bool) (v : Value) (y : DataW Unit × List MemPlace) (h : plainElem (H := Unit) P e v = some y) : ∃ c : Bool, v = .bool c := by
  unfold plainElem at h
  simp only [he] at h
  cases v <;> simp at h
  exact ⟨_, rfl⟩
/-- The map has just the pairs that f tells. -/
def HasE (D : DataW Unit) (f : Nat → Nat → Bool) : Prop := ∀ kl, Maps.has D kl = true ↔ ∃ t u : Nat, f t u = true ∧ kl = kp t u
theorem HasE.none_ : HasE (.map []) (fun _ _ => false) := by intro kl; simp [Maps.has]
theorem wf_small {n : Nat} (h : n ≤ 3) : (Lit.int .i64 (n : Int)).wf = true := WalkArith.wf_i64 (by omega)
theorem HasE.put {D : DataW Unit} {f : Nat → Nat → Bool} (h : HasE D f) (hD : IsMap D) {t u : Nat} (ht : t ≤ 3) (hu : u ≤ 3) (d : DataW Unit) : HasE (D.put (kp t u) d) (addE f t u) := by
  intro kl
  by_cases e : kl = kp t u
  · subst e
    rw [has_put_same hD (pairT.isKey (wf_small ht) (wf_small hu))]
    simp only [true_iff]
    exact ⟨t, u, by simp [addE], rfl⟩
  · rw [has_put_other e, h kl]
    constructor
    · rintro ⟨a, b, hf, rfl⟩
      exact ⟨a, b, by simp [addE, hf], rfl⟩
    · rintro ⟨a, b, hf, rfl⟩
      simp only [addE, Bool.or_eq_true, Bool.and_eq_true, beq_iff_eq] at hf
      rcases hf with hf | ⟨rfl, rfl⟩
      · exact ⟨a, b, hf, rfl⟩
      · exact absurd rfl e
def seenE (f : Nat → Nat → Bool) (left : Lit → Bool) : Nat → Nat → Bool := fun t u => f t u && !left (kp t u)
theorem seenE_start {D : DataW Unit} {f : Nat → Nat → Bool} (h : HasE D f) : mk4 (seenE f (Maps.has D)) = [0, 0, 0, 0] := by
  rw [← mk4_none]
  refine mk4_same fun a b _ _ => ?_
  unfold seenE
  cases hf : f a b
  · rfl
  · rw [(h (kp a b)).2 ⟨a, b, hf, rfl⟩]; rfl
theorem seenE_end {f : Nat → Nat → Bool} {left : Lit → Bool} (h : ∀ kl, left kl = false) : mk4 (seenE f left) = mk4 f := mk4_same fun a b _ _ => by simp [seenE, h]
theorem seenE_step {f : Nat → Nat → Bool} {left : Lit → Bool} {t u : Nat} (ht : t ≤ 3) (hu : u ≤ 3) (hf : f t u = true) (hl : left (kp t u) = true) :
    mk4 (seenE f fun z => left z && !z.sameKey (kp t u)) = mk4 (addE (seenE f left) t u) := by
  refine mk4_same fun a b ha hb => ?_
  unfold seenE addE
  have e := pairT.same (wf_small ha) (wf_small hb) (wf_small ht) (wf_small hu)
  dsimp only
  rw [e]
  have e1 : ((a : Int) == (t : Int)) = (a == t) := by rw [Bool.eq_iff_iff]; simp; omega
  have e2 : ((b : Int) == (u : Int)) = (b == u) := by rw [Bool.eq_iff_iff]; simp; omega
  rw [e1, e2]
  by_cases h1 : a = t
  · by_cases h2 : b = u
    · subst h1 h2; simp [hf]
    · rw [beq_false_of_ne h2]; simp
  · rw [beq_false_of_ne h1]; simp
/-- A struct of two numbers in a block of its own. -/
def Bx2 (w : World) (b : Nat) (E : TypeId) (x y : Int) : Prop := w.heap[b]? = some (.cells #[.int .i64 x, .int .i64 y] E (0, 0))
section
variable {w w1 : World} {b g : Nat} {E : TypeId} {x y : Int}
theorem Bx2.at_ (h : Bx2 w b E x y) : b < w.heap.size ∧ w.cell? ⟨b, 0, none⟩ = some (.int .i64 x) ∧ w.cell? ⟨b, 1, none⟩ = some (.int .i64 y) ∧ w.frozen? ⟨b, 0, none⟩ = false ∧ w.frozen? ⟨b, 1, none⟩ = false := by
  have h' : w.heap[b]? = some (.cells #[.int .i64 x, .int .i64 y] E (0, 0)) := h
  refine ⟨lt_of_block h', ?_, ?_, frozen_of_row w b 0 _ _ h', frozen_of_row w b 1 _ _ h'⟩
  · rw [cell_of_row w b 0 _ _ (0, 0) h']; rfl
  · rw [cell_of_row w b 1 _ _ (0, 0) h']; rfl
theorem Bx2.made (w : World) (E : TypeId) (x y : Int) : Bx2 (w.alloc (.cells #[.int .i64 x, .int .i64 y] E)) w.heap.size E x y := by
  unfold Bx2; rw [heap_alloc_new]
end
set_option maxRecDepth 100000 in
set_option maxHeartbeats 4000000 in
theorem impl_graphOf_any (A : Option Addr) (c : Nat) (l : List O3) (w : World) (hv : ValidP l) (hR : RdO w w.heap.size A l) :
    Calls Try.prog 41 #[.slice A l.length c] w fun e w' => (∃ v, e = .returned v ∧ OwnI w' w.heap.size 3 v (graL (comL l))) ∧ Below w.heap.size w w' := by
  have hl16 := hv.1
  have hcl := comL_len l
  have HM := Lib.hid (show l.length ≤ maxLen by unfold maxLen; omega)
  have HV := Lib.hid (comL_all hv); clear hv
  have hmm := @run_makeMap Try.prog
  obtain ⟨i0, hi0, hz0, hz1, hz2⟩ := info_parts info_I
  have H1 := Lib.hid (show i0.bytes * 4 ≤ 281474976710656 by rw [hz2]; omega)
  have H2 := Lib.hid (show 4 ≤ maxLen by unfold maxLen; omega)
  have hbM : Below w.heap.size w (w.alloc (.map #[] 0)) := by (repeat' (first | (with_reducible exact Below.refl _ _) | (with_reducible assumption) | (with_reducible refine Below.al ?_ _) | (with_reducible refine Below.drew ?_) | (with_reducible refine Below.drN ?_ _) | (with_reducible refine Below.via (by with_reducible assumption) ?_) | (with_reducible refine Below.setc ?_ ?_ _) | (with_reducible exact Nat.le_refl _) | (simp; done) | (simp; omega)))
  have hRM : RdO (w.alloc (.map #[] 0)) (w.alloc (.map #[] 0)).heap.size A l := hR.on hbM
  have HM0 := Lib.hid (World.ownsMap_made w Try.prog 74 (plainElem (H := Unit) Try.prog 4))
  generalize hcL : comL l = L at *
  go_enter Try.func41, Try.ntmps41
  go_wp2_with (go_at_call 47; refine (impl_committedOf_any _ _ _ _ (by omega) hRM).mono ?_; rintro e w2 ⟨⟨v, rfl, hO2⟩, hb2⟩; rw [hcL] at hO2; obtain ⟨A9, c9, rfl, hO9⟩ := hO2.reads)
  have hne : (Value.slice A9 L.length c9).ownBlock = none ∨ (Value.slice A9 L.length c9).ownBlock ≠ some w.heap.size := by
    cases hv : (Value.slice A9 L.length c9).ownBlock with
    | none => exact .inl rfl
    | some q => refine .inr ?_; have h := (OwnG.own_lt hO2 q hv).1; simp at h ⊢; omega
  have hL16 : L.length ≤ 16 := by omega
  have HNE := Lib.hid hne
  have HL2 := Lib.hid hO2
  have HM2 := Lib.hid (HM0.out.kept (grown_of_b hb2 none) (by simp))
  have HB2 := Lib.hid (Below.trans hbM (hb2.mono hbM.size))
  have HLC := Lib.hid hO9.1.1
  clear hO2 hO9 hb2 hne hR hRM hbM hcl hcL HM0
  go_loopw [16] (fun v16 wr => ∃ (k : Nat) (D : DataW Unit), k ≤ L.length ∧ v16 = .int .i64 k ∧ wr.ownsMap Try.prog 74 (plainElem (H := Unit) Try.prog 4) w.heap.size (k * 100) D ∧ HasE D (eTo L k) ∧ w2.grownBy wr (some w.heap.size) ∧ Below w.heap.size w wr) (fun v16 _ => L.length - (intOf v16).toNat)
  case atStart => exact ⟨0, _, Nat.zero_le _, rfl, HM2.out, HasE.none_, World.grownBy.refl _ _, HB2.out⟩
  case round =>
    obtain ⟨k, D, hk, rfl, hown, hE, hgw, hbw⟩ := hrel
    have HO := Lib.hid hown; clear hown
    have HE := Lib.hid hE; clear hE
    have HG := Lib.hid hgw; clear hgw
    have HB := Lib.hid hbw; clear hbw
    have hszr := HB.out.size
    have HLr := Lib.hid (OwnG.far HL2.out HG.out HNE.out)
    have HRr := Lib.hid (OwnO.rd HLr.out)
    by_cases hlt : k < L.length
    · obtain ⟨b, off, rfl, hb, h0, h1, h2⟩ := HRr.out.at_ hlt
      obtain ⟨n, hn, hn3⟩ := valid_num HV.out hlt
      have HNn := Lib.hid hn
      rw [hn] at h0
      have hgne : wr.heap.size ≠ w.heap.size := by have := HO.out.lt; omega
      obtain ⟨wo, hwo⟩ : ∃ wo : World, wo = wr := ⟨_, rfl⟩
      subst hwo
      have BX := Lib.hid (Bx3.made wo 40 n L[k].kind L[k].item)
      have hal : Below wo.heap.size wo (wo.alloc (.cells #[.int .i64 n, .int .i64 L[k].kind, .int .i64 L[k].item] 40)) := by (repeat' (first | (with_reducible exact Below.refl _ _) | (with_reducible assumption) | (with_reducible refine Below.al ?_ _) | (with_reducible refine Below.drew ?_) | (with_reducible refine Below.drN ?_ _) | (with_reducible refine Below.via (by with_reducible assumption) ?_) | (with_reducible refine Below.setc ?_ ?_ _) | (with_reducible exact Nat.le_refl _) | (simp; done) | (simp; omega)))
      have GA := Lib.hid (HG.out.trans (grown_of_b hal _))
      have BA := Lib.hid (Below.trans HB.out (hal.mono HB.out.size))
      have OA := Lib.hid (HO.out.alloc (.cells #[.int .i64 n, .int .i64 L[k].kind, .int .i64 L[k].item] 40))
      have hkc : k + 1 ≤ c9 := by have := HLC.out; omega
      clear hal hn
      have HTL := Lib.hid (txN_eq hlt HNn.out)
      by_cases hcap : c9 = k + 1
      · have hLk : L.length = k + 1 := by have := HLC.out; omega
        have HLk := Lib.hid hLk
        clear hLk
        go_wp2_with fail
        clear h0 h1 h2
        go_loopw [26] (fun v26 wr => v26 = .int .i64 0 ∧ wr = wo.alloc (.cells #[.int .i64 n, .int .i64 L[k].kind, .int .i64 L[k].item] 40)) (fun v26 _ => 0)
        case atStart => exact ⟨rfl, rfl⟩
        case round =>
          obtain ⟨rfl, rfl⟩ := hrel
          have hz : L.length - (k + 1) = 0 := by have := HLk.out; omega
          go_wp2_with fail
          refine ⟨⟨k + 1, D, by have := HLk.out; omega, by go_num, OA.out.mono (by omega), ?_, GA.out, BA.out⟩, by have := HLk.out; simp [intOf]; omega⟩
          show HasE D (eIn L k (eTo L k) L.length)
          rw [HLk.out, eIn_start _ _ _ _ (Nat.le_refl _)]
          exact HE.out
      · have hcap' : ¬ k + 1 = c9 := by omega
        go_wp2_with fail
        generalize ho2 : off + (k + 1) * 3 = off2
        generalize c9 - (k + 1) = c2
        have HO2 := Lib.hid ho2; clear ho2
        go_loopw [26] (fun v26 wr => ∃ (j : Nat) (D : DataW Unit), j ≤ L.length - (k + 1) ∧ v26 = .int .i64 j ∧ wr.ownsMap Try.prog 74 (plainElem (H := Unit) Try.prog 4) w.heap.size (k * 100 + j) D ∧ HasE D (eIn L k (eTo L k) (k + 1 + j)) ∧ w2.grownBy wr (some w.heap.size) ∧ Below w.heap.size w wr ∧ Bx3 wr wo.heap.size 40 n L[k].kind L[k].item) (fun v26 _ => L.length - (intOf v26).toNat)
        case atStart => exact ⟨0, D, Nat.zero_le _, rfl, OA.out, by rw [Nat.add_zero, eIn_start _ _ _ _ (Nat.le_refl _)]; exact HE.out, GA.out, BA.out, BX.out⟩
        case round =>
          clear OA GA BA BX HE HO HG HB HLr HRr h0 h1 h2 hb
          obtain ⟨j, D, hj, rfl, hown, hE, hgw, hbw, hbx⟩ := hrel
          have HO := Lib.hid hown; clear hown
          have HE := Lib.hid hE; clear hE
          have HG := Lib.hid hgw; clear hgw
          have HB := Lib.hid hbw; clear hbw
          have HX := Lib.hid hbx; clear hbx
          have HLr := Lib.hid (OwnG.far HL2.out HG.out HNE.out)
          have HRr := Lib.hid (OwnO.rd HLr.out)
          obtain ⟨x0, x1, x2, x3, x4, x5, x6⟩ := HX.out.at_
          by_cases hjl : k + 1 + j < L.length
          · have hjl' : j < L.length - (k + 1) := by omega
            obtain ⟨b', off', he, hb', s0, s1, s2⟩ := HRr.out.at_ hjl
            injection he with he; injection he with he1 he2
            subst he1 he2
            have hoo : off + (k + 1 + j) * 3 = off2 + j * 3 := by have := HO2.out; omega
            rw [hoo] at s0 s1 s2
            obtain ⟨m, hm, hm3⟩ := valid_num HV.out hjl
            have HMn := Lib.hid hm
            rw [hm] at s0
            clear hoo hm
            have HCE := cfAt_eq hlt hjl
            cases hcf : conflB L[k] L[k + 1 + j]
            all_goals have HCF := Lib.hid (show conflB ⟨(n : Int), L[k].kind, L[k].item⟩ ⟨(m : Int), L[k + 1 + j].kind, L[k + 1 + j].item⟩ = _ from (show _ = conflB L[k] L[k + 1 + j] by rw [← HNn.out, ← HMn.out]).trans hcf)
            · have HN := Lib.hid (eIn_no (f := eTo L k) (HCE.trans hcf))
              clear hcf HCE
              go_wp2_with (go_at_call 48; refine (impl_conflicts_any _ _ _ _ _ _ _).mono ?_; rintro e w1 ⟨rfl, hb1⟩; rw [HCF.out])
              have hbq : Below wr.heap.size wr w1 := by (repeat' (first | (with_reducible exact Below.refl _ _) | (with_reducible assumption) | (with_reducible refine Below.al ?_ _) | (with_reducible refine Below.drew ?_) | (with_reducible refine Below.drN ?_ _) | (with_reducible refine Below.via (by with_reducible assumption) ?_) | (with_reducible refine Below.setc ?_ ?_ _) | (with_reducible exact Nat.le_refl _) | (simp; done) | (simp; omega)))
              exact ⟨⟨j + 1, D, by omega, by go_num, (HO.out.kept (grown_of_b hbq none) (by simp)).mono (by omega), by rw [← Nat.add_assoc, HN.out]; exact HE.out, HG.out.trans (grown_of_b hbq _), Below.trans HB.out (hbq.mono HB.out.size), HX.out.be hbq⟩, by simp [intOf]; omega⟩
            · have HN := Lib.hid (eIn_yes (f := eTo L k) (by omega) (HCE.trans hcf))
              clear hcf HCE
              go_wp2_with (first | (go_at_call 48; refine (impl_conflicts_any _ _ _ _ _ _ _).mono ?_; rintro e w1 ⟨rfl, hb1⟩; rw [HCF.out]; have hbq : Below wr.heap.size wr w1 := (by (repeat' (first | (with_reducible exact Below.refl _ _) | (with_reducible assumption) | (with_reducible refine Below.al ?_ _) | (with_reducible refine Below.drew ?_) | (with_reducible refine Below.drN ?_ _) | (with_reducible refine Below.via (by with_reducible assumption) ?_) | (with_reducible refine Below.setc ?_ ?_ _) | (with_reducible exact Nat.le_refl _) | (simp; done) | (simp; omega)))); obtain ⟨y0, y1, y2, y3, y4, y5, y6⟩ := (HX.out.be hbq).at_; obtain ⟨z0, z1, z2, z3, z4, z5, z6⟩ := ((Bx3.made wr 40 m L[k + 1 + j].kind L[k + 1 + j].item).be hb1).at_) | (at_mapUpdate; refine wpList_mapUpdate_own _ rfl _ _ _ 72 rfl 74 4 pairT.law Try.underlying72 (plainElem (H := Unit) Try.prog 4) w.heap.size (k * 100 + j) _ rfl (HO.out.kept (grown_of_b hbq none) (by simp)) (by unfold maxLen; omega) (pv n m) (.bool true) (kp n m) rfl rfl (pairT.rd (wf_small hn3) (wf_small hm3)) _ [] (plainElem_bool Try.underlying4 true) ?_; intro w3 hown3 hgrow3))
              refine ⟨⟨j + 1, _, by omega, by go_num, hown3, ?_, (HG.out.trans (grown_of_b hbq _)).trans hgrow3, (Below.trans HB.out (hbq.mono HB.out.size)).grown hgrow3 (Nat.le_trans HB.out.size hbq.size) (fun j hj => by cases hj; exact Nat.le_refl _), (HX.out.be hbq).gr hgrow3 hgne⟩, by simp [intOf]; omega⟩
              rw [← Nat.add_assoc, HN.out, HTL.out, txN_eq hjl HMn.out]
              exact HE.out.put HO.out.isMap hn3 hm3 _
          · have hjl' : ¬ j < L.length - (k + 1) := by omega
            have hj' : k + 1 + j = L.length := by omega
            have HJ := Lib.hid hj'; clear hj'
            go_wp2_with fail
            refine ⟨⟨k + 1, D, by omega, by go_num, HO.out.mono (by omega), by have h := HE.out; rw [HJ.out] at h; exact h, HG.out, HB.out⟩, by simp [intOf]; omega⟩
    · have hk' : k = L.length := by omega
      have HK := Lib.hid hk'; clear hk'
      obtain ⟨wo, hwo⟩ : ∃ wo : World, wo = wr := ⟨_, rfl⟩
      subst hwo
      have hBlt := HO.out.lt
      have HSM := Lib.hid HE.out
      go_wp2_with (first
        | (at_make; refine wpList_make_full _ rfl _ _ 24 rfl wo.heap.size 3 i0 _ 1 Try.underlying24 hi0 hz0 hz1 .i64 .i64 _ _ 4 rfl rfl rfl rfl H1.out H2.out (Nat.le_refl _) ?_; intro W hOW hg; have hbW : Below wo.heap.size wo W := (Below.refl _ _).grown hg (Nat.le_refl _) (by simp); clear hg; have HOW := Lib.hid (HO.out.kept (grown_of_b hbW none) (by simp)))
        | (at_range; refine wpList_range_own _ rfl _ 72 rfl 74 4 pairT.law Try.underlying72 (plainElem (H := Unit) Try.prog 4) w.heap.size (k * 100) _ rfl HOW.out ?_; intro w0 hrg0 hg0 hs0))
      have hWlt : wo.heap.size < W.heap.size := (hOW.lt _ rfl).2
      have hO0 : OwnI w0 w.heap.size 3 (.slice (some ⟨wo.heap.size, 0, none⟩) 4 4) (mk4 (seenE (eTo L k) (Maps.has D))) := by
        rw [seenE_start HSM.out]
        have h1 : OwnI W wo.heap.size 3 (.slice (some ⟨wo.heap.size, 0, none⟩) 4 4) [0, 0, 0, 0] := OwnG.of_row (by simpa [madeCells, cellsI, Value.cells, List.range_succ] using hOW)
        exact OwnG.low (OwnG.far h1 hg0 (.inr (by simp [Value.ownBlock]))) HB.out.size
      have hB0 : Below w.heap.size w w0 := (Below.trans HB.out (hbW.mono HB.out.size)).grown hg0 (Nat.le_trans HB.out.size hbW.size) (fun j hj => by cases hj)
      go_frame
      go_loopw [10] (fun _ wr => ∃ (left : Lit → Bool) (cnt : Nat), wr.ranges Try.prog 74 (plainElem (H := Unit) Try.prog 4) w.heap.size W.heap.size (k * 100) D left cnt ∧ OwnI wr w.heap.size 3 (.slice (some ⟨wo.heap.size, 0, none⟩) 4 4) (mk4 (seenE (eTo L k) left)) ∧ Below w.heap.size w wr) (fun _ wr => wr.rangeLeft w.heap.size W.heap.size)
      case atStart => exact ⟨_, _, hrg0, hO0, hB0⟩
      case round =>
        clear hrg0 hO0 hB0 HLr HRr
        obtain ⟨left, cnt, hrg, hown, hbw⟩ := hrel
        have HO3 := Lib.hid hown; clear hown
        have HB3 := Lib.hid hbw; clear hbw
        go_wp2_with (at_next; refine wpList_next_pair _ rfl _ rfl 74 pairT (plainElem (H := Unit) Try.prog 4) w.heap.size W.heap.size (k * 100) _ _ _ rfl hrg ?_ ?_)
        · intro _ hl0
          go_wp2
          go_ret
          exact ⟨⟨_, rfl, by have h := HO3.out; rw [seenE_end hl0, HK.out] at h; exact h⟩, HB3.out⟩
        · intro a b v d ps w1 cnt1 wa wb0 hlk hvv hat hrg1 hlt1 hg1 hs1 hen
          obtain ⟨t, u, hE0, hkp⟩ := (HSM.out _).1 (has_true_of_atKey hat)
          obtain ⟨ht3, hu3⟩ := eTo_dom (fun k => txN_le HV.out k) _ _ _ hE0
          obtain ⟨rfl, rfl⟩ := pairT.inj wa wb0 (wf_small ht3) (wf_small hu3) hkp
          clear hkp wa wb0
          have HS := Lib.hid (seenE_step (left := left) ht3 hu3 hE0 hlk)
          obtain ⟨wb, hwb⟩ : ∃ wb, wb = w1.alloc (.cells #[.int .i64 t, .int .i64 u] 74) := ⟨_, rfl⟩
          have hbx : Bx2 wb w1.heap.size 74 t u := by rw [hwb]; exact Bx2.made _ _ _ _
          obtain ⟨x0, x1, x2, x3, x4⟩ := hbx.at_
          rw [hs1] at x0 x1 x2 x3 x4
          have hgb : w1.grownBy wb (some wo.heap.size) := by rw [hwb]; exact World.grownBy_alloc _ _ _
          have HO7 := Lib.hid (show OwnI wb w.heap.size 3 (.slice (some ⟨wo.heap.size, 0, none⟩) 4 4) (mk4 (seenE (eTo L k) left)) by rw [hwb]; exact OwnI.alloc (OwnG.far HO3.out hg1 (.inr (by simp [Value.ownBlock]; omega))) _)
          have HB7 := Lib.hid (show Below w.heap.size w wb by rw [hwb]; exact Below.al (HB3.out.grown hg1 HB3.out.size (fun j hj => by cases hj; have := HB.out.size; omega)) _)
          have HGB := Lib.hid hgb
          have hlen : t < (mk4 (seenE (eTo L k) left)).length := by rw [mk4_len]; omega
          obtain ⟨_, c7, c8, c9'⟩ := OwnI.cells HO7.out hlen
          have hn4 : (t : Int) < 4 := by omega
          have hv64 : (u : Int) ≤ 64 := by omega
          have HW := Lib.hid (show wrap64 (2 ^ u) = pwN u by unfold wrap64 pwN; rcases (show u = 0 ∨ u = 1 ∨ u = 2 ∨ u = 3 by omega) with rfl | rfl | rfl | rfl <;> decide)
          have HRG := Lib.hid hrg
          have HRG1 := Lib.hid hrg1
          clear hrg hrg1 hgb hbx hat hvv
          go_wp2_with fail
          rw [← hwb]
          clear hwb
          refine wp_region_still_tail 9 (by kernel_rfl) (by kernel_rfl) ?_
          simp only [List.take_succ_cons, List.take_zero, List.drop_succ_cons, List.drop_zero]
          repeat still_step
          refine wpStill_nil ?_
          change wpList _ _ _ _ _ wb.drew
          go_wp2_with fail
          have hne1 : w.heap.size ≠ wo.heap.size := by omega
          have hne2 : W.heap.size ≠ wo.heap.size := by omega
          have hrg7 := HRG1.out.kept (ag_grown (n := t) (v := .int .i64 (bits .or .i64 (mk4 (seenE (eTo L k) left))[t] (wrap64 (2 ^ u)))) HGB.out) (by simpa using hne1) (by simpa using hne2)
          refine ⟨⟨_, cnt1, hrg7, ?_, Below.drew (Below.setCell HB7.out (p := ⟨wo.heap.size, t, none⟩) HB.out.size _)⟩, by rw [hrg7.left_eq, HRG.out.left_eq]; exact hlt1⟩
          have e : mk4 (seenE (eTo L k) fun z => left z && !z.sameKey (kp t u)) = (mk4 (seenE (eTo L k) left)).set t (bits .or .i64 (mk4 (seenE (eTo L k) left))[t] (wrap64 (2 ^ u))) := by
            rw [HS.out, HW.out]
            exact (mk4_set _ hlen hu3).symm
          rw [e]
          exact OwnG.kept (OwnI.set_ HO7.out (by rw [mk4_len]) t _) (fun _ _ => rfl)
set_option maxHeartbeats 400000 in
theorem spec_GraphOf_any (A : Option Addr) (c : Nat) (l : List O3) (w : World) (hl : l.length ≤ 1048576) (hc : l.length ≤ c) (hR : RdO w w.heap.size A l) :
    Calls Try.prog 11 #[.slice A l.length c] w fun e w' => (∃ v, e = .returned v ∧ OwnI w' w.heap.size 3 v (graV l)) ∧ Below w.heap.size w w' := by
  have HM := Lib.hid (show l.length ≤ maxLen by unfold maxLen; omega)
  rcases Bool.eq_false_or_eq_true (tt (ValidP l)) with hv | hv
  all_goals have HV := Lib.hid hv
  · have HP := Lib.hid (tt_eq.1 hv)
    clear hv
    have h16 := HP.out.1
    have hcl := comL_len l
    go_enter Try.func11, Try.ntmps11
    go_wp2_with (first | (go_at_call 37; refine (spec_validSchedule_any _ _ _ _ HM.out hR).mono ?_; rintro e w1 ⟨rfl, hb1⟩; rw [HV.out]) | (go_at_call 39; refine (spec_committed_any _ _ _ _ hl (hR.on hb1)).mono ?_; rintro e w2 ⟨⟨v, rfl, hO2⟩, hb2⟩; obtain ⟨A9, c9, rfl, hO9⟩ := hO2.reads) | (go_at_call 38; refine (spec_graph_any _ _ _ _ (by omega) (comL_all HP.out) hO9.2.1).mono ?_; rintro e w3 ⟨⟨v, rfl, hO⟩, hb3⟩))
    go_ret
    exact ⟨⟨_, rfl, by rw [graV, HV.out, if_pos rfl]; exact OwnG.low hO (Nat.le_trans hb1.size hb2.size)⟩, by (repeat' (first | (with_reducible exact Below.refl _ _) | (with_reducible assumption) | (with_reducible refine Below.al ?_ _) | (with_reducible refine Below.drew ?_) | (with_reducible refine Below.drN ?_ _) | (with_reducible refine Below.via (by with_reducible assumption) ?_) | (with_reducible refine Below.setc ?_ ?_ _) | (with_reducible exact Nat.le_refl _) | (simp; done) | (simp; omega)))⟩
  · clear hv
    go_enter Try.func11, Try.ntmps11
    go_wp2_with (go_at_call 37; refine (spec_validSchedule_any _ _ _ _ HM.out hR).mono ?_; rintro e w1 ⟨rfl, hb1⟩; rw [HV.out])
    go_ret
    exact ⟨⟨_, rfl, by rw [graV, HV.out]; exact OwnI.nil_⟩, by (repeat' (first | (with_reducible exact Below.refl _ _) | (with_reducible assumption) | (with_reducible refine Below.al ?_ _) | (with_reducible refine Below.drew ?_) | (with_reducible refine Below.drN ?_ _) | (with_reducible refine Below.via (by with_reducible assumption) ?_) | (with_reducible refine Below.setc ?_ ?_ _) | (with_reducible exact Nat.le_refl _) | (simp; done) | (simp; omega)))⟩
set_option maxHeartbeats 400000 in
theorem impl_GraphOf_any (A : Option Addr) (c : Nat) (l : List O3) (w : World) (hl : l.length ≤ 1048576) (hc : l.length ≤ c) (hR : RdO w w.heap.size A l) :
    Calls Try.prog 13 #[.slice A l.length c] w fun e w' => (∃ v, e = .returned v ∧ OwnI w' w.heap.size 3 v (graV l)) ∧ Below w.heap.size w w' := by
  have HM := Lib.hid (show l.length ≤ maxLen by unfold maxLen; omega)
  rcases Bool.eq_false_or_eq_true (tt (ValidP l)) with hv | hv
  all_goals have HV := Lib.hid hv
  · have HP := Lib.hid (tt_eq.1 hv)
    clear hv
    have h16 := HP.out.1
    have hcl := comL_len l
    go_enter Try.func13, Try.ntmps13
    go_wp2_with (first | (go_at_call 21; refine (impl_ValidSchedule_any _ _ _ _ HM.out hc hR).mono ?_; rintro e w1 ⟨rfl, hb1⟩; rw [HV.out]) | (go_at_call 41; refine (impl_graphOf_any _ _ _ _ HP.out (hR.on hb1)).mono ?_; rintro e w2 ⟨⟨v, rfl, hO⟩, hb2⟩))
    go_ret
    exact ⟨⟨_, rfl, by rw [graV, HV.out, if_pos rfl]; exact OwnG.low hO hb1.size⟩, by (repeat' (first | (with_reducible exact Below.refl _ _) | (with_reducible assumption) | (with_reducible refine Below.al ?_ _) | (with_reducible refine Below.drew ?_) | (with_reducible refine Below.drN ?_ _) | (with_reducible refine Below.via (by with_reducible assumption) ?_) | (with_reducible refine Below.setc ?_ ?_ _) | (with_reducible exact Nat.le_refl _) | (simp; done) | (simp; omega)))⟩
  · clear hv
    go_enter Try.func13, Try.ntmps13
    go_wp2_with (go_at_call 21; refine (impl_ValidSchedule_any _ _ _ _ HM.out hc hR).mono ?_; rintro e w1 ⟨rfl, hb1⟩; rw [HV.out])
    go_ret
    exact ⟨⟨_, rfl, by rw [graV, HV.out]; exact OwnI.nil_⟩, by (repeat' (first | (with_reducible exact Below.refl _ _) | (with_reducible assumption) | (with_reducible refine Below.al ?_ _) | (with_reducible refine Below.drew ?_) | (with_reducible refine Below.drN ?_ _) | (with_reducible refine Below.via (by with_reducible assumption) ?_) | (with_reducible refine Below.setc ?_ ?_ _) | (with_reducible exact Nat.le_refl _) | (simp; done) | (simp; omega)))⟩
end Go.Proofs.Ytaflkbemecjcpaa
