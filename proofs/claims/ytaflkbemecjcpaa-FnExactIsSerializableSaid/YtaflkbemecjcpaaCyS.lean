/- The first shortest circle: the reference's walks. -/
import Derived.Test.YtaflkbemecjcpaaCyM
import Derived.Test.YtaflkbemecjcpaaPow
import Derived.Test.YtaflkbemecjcpaaSwap
import Derived.Test.YtaflkbemecjcpaaGrS
namespace Go.Proofs.Ytaflkbemecjcpaa
set_option linter.unusedSimpArgs false
set_option linter.unusedVariables false
open Go.RowKit

theorem rd_cellsI {w : World} {B b off : Nat} {zs : List Int} (h : RdI w B (some ⟨b, off, none⟩) zs) : ∀ j u, (cellsI zs)[j]? = some u → w.cell? ((⟨b, off, none⟩ : Addr).add j) = some u := by
  intro j u hj
  have hlt : j < zs.length := by
    have := (List.getElem?_eq_some_iff.1 hj).1
    simpa [cellsI] using this
  obtain ⟨b', off', e, _, hc⟩ := h.at_ hlt
  simp only [Option.some.injEq, Addr.mk.injEq, and_true] at e
  obtain ⟨rfl, rfl⟩ := e
  rw [addr_add, hc]
  rw [← hj]
  simp [cellsI, hlt]
section
variable {P : Program} {ops : Array Oper} {rest : List Oper} {o : Oper} {a : Act} {Q : Exit → Act → World → Prop}
/-- append of a whole slice of numbers. -/
theorem wpList_app_is (W : World) (T E : TypeId) (i : TypeInfo) (hgd : o.guard = none) (s x : Operand)
    (ho : o.op = .call { callee := .builtin .append, args := #[s, x], argTypes := #[T, T] })
    (ht : P.underlying T = some (.slice E)) (hi : P.info? E = some i) (hz : i.zero = some (.int .i64 0)) (hsize : i.size = 1) (hby : i.bytes = 8)
    (base : Nat) (v : Value) (l : List Int) (hs : a.eval s = v) (hown : AppI W base E v l)
    (B b off m c : Nat) (l2 : List Int) (hx : a.eval x = .slice (some ⟨b, off, none⟩) m c) (hm : m = l2.length) (hR : RdI W B (some ⟨b, off, none⟩) l2) (hlen : l.length + l2.length ≤ 4194304) (hbase : base ≤ W.heap.size)
    (h : ∀ A' c' w', AppI w' base E (.slice A' (l ++ l2).length c') (l ++ l2) → W.grownBy w' v.ownBlock → Below base W w' → wpList P ops Q rest (a.put o.dst (.slice A' (l ++ l2).length c')) w') :
    wpList P ops Q (o :: rest) a W := by
  subst hm
  refine wpList_append_own _ hgd s x T ho base E i _ 1 8 ht hi hz hsize hby rfl (by decide) v l.length (cellsI l) hs hown ⟨b, off, none⟩ l2.length c (cellsI l2) hx (by simp [cellsI]) (rd_cellsI hR) (cellsI_one _) ?_ ?_ hbase ?_
  · unfold maxLen; omega
  · omega
  · intro v' w' h1 h2 _
    obtain ⟨A', c', rfl, _⟩ := row_form h1
    rw [show cellsI l ++ cellsI l2 = cellsI (l ++ l2) by simp [cellsI]] at h1
    have e : l.length + l2.length = (l ++ l2).length := by rw [List.length_append]
    rw [e] at h1 ⊢
    refine h A' c' w' h1 h2 ?_
    exact Below.grown (Below.refl _ _) h2 hbase (fun k hk => (hown.lt k hk).1)
end
theorem firstU_none {g : Nat → List Nat} : ∀ {l : List Nat}, (∀ u ∈ l, g u = []) → firstU g l = []
  | [], _ => rfl
  | x :: l, h => by rw [firstU_nil _ (h x (by simp))]; exact firstU_none fun u hu => h u (by simp [hu])
/-- The bit of a row. -/
theorem msk_bit (g : Nat → Bool) (j : Nat) (hj : j ≤ 3) : (msk g / pwN j).tmod 2 = cond (g j) 1 0 := by
  unfold msk pwN
  rcases (show j = 0 ∨ j = 1 ∨ j = 2 ∨ j = 3 by omega) with rfl | rfl | rfl | rfl <;> cases g 0 <;> cases g 1 <;> cases g 2 <;> cases g 3 <;> decide
theorem msk_in (g : Nat → Bool) : 0 ≤ msk g ∧ msk g ≤ 15 := by
  unfold msk
  cases g 0 <;> cases g 1 <;> cases g 2 <;> cases g 3 <;> decide
theorem pwN_in (j : Nat) (hj : j ≤ 3) : 1 ≤ pwN j ∧ pwN j ≤ 8 := by
  unfold pwN
  rcases (show j = 0 ∨ j = 1 ∨ j = 2 ∨ j = 3 by omega) with rfl | rfl | rfl | rfl <;> decide
set_option maxHeartbeats 1000000 in
theorem spec_bit_any (g : Nat → Bool) (j : Nat) (w : World) (hj : j ≤ 3) :
    Calls Try.prog 98 #[.int .i64 (msk g), .int .i64 j] w fun e w' => e = .returned (.int .i64 (cond (g j) 1 0)) ∧ w = w' := by
  have hb := msk_bit g j hj
  have hm := msk_in g
  have hp := pwN_in j hj
  obtain ⟨x, hx⟩ : ∃ x, x = msk g := ⟨_, rfl⟩
  obtain ⟨p, hpp⟩ : ∃ p, p = pwN j := ⟨_, rfl⟩
  rw [← hx] at hb hm ⊢
  rw [← hpp] at hb hp
  have HB := Lib.hid hb
  have HP := Lib.hid hpp
  clear hb hx hpp
  have hp0 : ¬ p = 0 := by omega
  go_enter Try.func98, Try.ntmps98
  go_wp2_with fail
  refine (spec_power_any j _ hj).mono ?_
  rintro e w1 ⟨rfl, rfl⟩
  rw [← HP.out]
  go_wp2_with fail
  go_ret
  exact ⟨ret_int HB.out, rfl⟩
theorem mk4_row (f : Nat → Nat → Bool) {w : World} {B : Nat} {A : Option Addr} (h : RdI w B A (mk4 f)) {a : Nat} (ha : a ≤ 3) : ∃ b off, A = some ⟨b, off, none⟩ ∧ b < B ∧ w.cell? ⟨b, off + a, none⟩ = some (.int .i64 (msk (f a))) := by
  obtain ⟨b, off, e, hb, hc⟩ := h.at_ (k := a) (by rw [mk4_len]; omega)
  exact ⟨b, off, e, hb, by rw [hc, mk4_at]⟩
theorem spec_bit_yes (g : Nat → Bool) (j : Nat) (w : World) (hj : j ≤ 3) (h : g j = true) : Calls Try.prog 98 #[.int .i64 (msk g), .int .i64 j] w fun e w' => e = .returned (.int .i64 1) ∧ w = w' := by
  have := spec_bit_any g j w hj
  rw [h] at this
  exact this
theorem spec_bit_no (g : Nat → Bool) (j : Nat) (w : World) (hj : j ≤ 3) (h : g j = false) : Calls Try.prog 98 #[.int .i64 (msk g), .int .i64 j] w fun e w' => e = .returned (.int .i64 0) ∧ w = w' := by
  have := spec_bit_any g j w hj
  rw [h] at this
  exact this
theorem spec_hasN_any (A : Option Addr) (c : Nat) (p : List Nat) (q t : Nat) (w : World) (hq : q = p.length) (hl : q ≤ maxLen) (hR : RdI w w.heap.size A (ci p)) :
    Calls Try.prog 97 #[.slice A q c, .int .i64 (t : Int)] w fun e w' => e = .returned (.bool (hasN p t)) ∧ w = w' := by
  subst hq
  have h := spec_hasInt_any A c (ci p) (t : Int) w (by rw [ci_len]; exact hl) hR
  rw [ci_len, ci_has] at h
  exact h
/-- What is tried at a node. -/
def cycG (f : Nat → Nat → Bool) (k : Nat) (head : List Nat) : Nat → List Nat := fun t => if Nat.blt (headN head) t && (!(hasN head t) && f (lastN head) t) then cycF f k (head ++ [t]) else []
theorem cycF_zero (f : Nat → Nat → Bool) (head : List Nat) : cycF f 0 head = if f (lastN head) (headN head) then head else [] := rfl
theorem cycF_succ (f : Nat → Nat → Bool) (k : Nat) (head : List Nat) : cycF f (k + 1) head = firstU (cycG f k head) (List.range 4) := rfl
theorem cycG_has {f : Nat → Nat → Bool} {k : Nat} {head : List Nat} {t : Nat} (h : hasN head t = true) : cycG f k head t = [] := by unfold cycG; rw [h]; simp
theorem cycG_off {f : Nat → Nat → Bool} {k : Nat} {head : List Nat} {t a : Nat} (ha : a = lastN head) (h : f a t = false) : cycG f k head t = [] := by unfold cycG; rw [← ha, h]; simp
theorem cycG_low {f : Nat → Nat → Bool} {k : Nat} {head : List Nat} {t : Nat} (h : t ≤ headN head) : cycG f k head t = [] := by
  unfold cycG
  have : Nat.blt (headN head) t = false := by
    rw [Bool.eq_false_iff]; intro e; rw [Nat.blt_eq] at e; omega
  rw [this]; simp
theorem cycG_yes {f : Nat → Nat → Bool} {k : Nat} {head : List Nat} {t a : Nat} (h0 : headN head < t) (h1 : hasN head t = false) (ha : a = lastN head) (h : f a t = true) : cycG f k head t = cycF f k (head ++ [t]) := by
  unfold cycG
  have : Nat.blt (headN head) t = true := by rw [Nat.blt_eq]; exact h0
  rw [this, h1, ← ha, h]; rfl
set_option maxRecDepth 8192 in
set_option maxHeartbeats 4000000 in
theorem spec_cycleFrom_any (f : Nat → Nat → Bool) : ∀ (k : Nat) (head : List Nat) (q : Nat) (n : Int) (A : Option Addr) (c : Nat) (A' : Option Addr) (c' B0 : Nat) (w : World), q = head.length → n = ((head.length + k : Nat) : Int) → 0 < head.length → head.length + k ≤ 4 → (∀ x ∈ head, x ≤ 3) → RdI w w.heap.size A (mk4 f) → B0 ≤ w.heap.size → OwnI w B0 3 (.slice A' q c') (ci head) →
    Calls Try.prog 85 #[.slice A 4 c, .slice A' q c', .int .i64 n] w fun e w' => (∃ v, e = .returned v ∧ OwnI w' B0 3 v (ci (cycF f k head))) ∧ Below w.heap.size w w' := by
  obtain ⟨i0, hi0, hz0, hz1, hz2⟩ := info_parts info_I
  intro k
  induction k with
  | zero =>
    intro head q n A c A' c' B0 w hq hn h0 h4 hx hR hB hO
    have hla := lastN_at h0
    have hhe := headN_at h0
    have hlm : lastN head ≤ 3 := by rw [← hla]; exact hx _ (List.getElem_mem _)
    have hhm : headN head ≤ 3 := by rw [← hhe]; exact hx _ (List.getElem_mem _)
    obtain ⟨m, hm⟩ : ∃ m, q = m + 1 := ⟨head.length - 1, by omega⟩
    obtain ⟨g, cap, e1, hrest⟩ := OwnI.at_ (k := 0) (show OwnI w B0 3 (.slice A' (ci head).length c') (ci head) by rw [ci_len, ← hq]; exact hO) (by rw [ci_len]; exact h0)
    clear hrest
    injection e1 with eA _ eC
    subst eA eC
    obtain ⟨hg0, hg, hc0, hfz⟩ := OwnI.cells hO (k := 0) (by rw [ci_len]; exact h0)
    obtain ⟨_, _, hcm, _⟩ := OwnI.cells hO (k := m) (by rw [ci_len]; omega)
    rw [ci_at, hhe] at hc0
    rw [ci_at] at hcm
    simp only [show m = head.length - 1 by omega, hla] at hcm
    rw [show head.length - 1 = m by omega] at hcm
    obtain ⟨b, off, rfl, hb, hrow⟩ := mk4_row f hR hlm
    have HQ := Lib.hid (show m + 1 = head.length by omega)
    have HQC := Lib.hid (show m + 1 = (ci head).length by rw [ci_len]; omega)
    have HL := Lib.hid (show m + 1 ≤ maxLen by unfold maxLen; omega)
    have HL4 := Lib.hid (show (ci head).length ≤ 4 by rw [ci_len]; omega)
    clear hla hhe
    subst hm
    have HO := Lib.hid hO
    clear hO
    have hh0 := h0
    clear h0 hfz
    obtain ⟨a, ha⟩ : ∃ a, a = lastN head := ⟨_, rfl⟩
    obtain ⟨d, hd⟩ : ∃ d, d = headN head := ⟨_, rfl⟩
    rw [← ha] at hlm hcm hrow
    rw [← hd] at hhm hc0
    have HA := Lib.hid ha
    have HD := Lib.hid hd
    have ha4 : (a : Int) < 4 := by omega
    rw [← hq] at hn h4
    have hm3 : (m : Int) ≤ 3 := by omega
    clear ha hd hq
    have hnm : n = (m : Int) + 1 := by omega
    subst hnm
    clear hn
    cases he : f a d
    · have HE := Lib.hid he
      clear he
      go_enter Try.func85, Try.ntmps85
      go_wp2_with fail
      ((first | (with_reducible refine wp_region_from (by with_reducible assumption) follows (by kernel_rfl) ?_) | (refine wp_region_aft follows (by kernel_rfl) ?_)); (repeat (go_big_quiet_step ((go_at_call 98; exact aft_same (spec_bit_no (f a) d _ hhm HE.out))))); refine wpQuiet_nil ?_; intro _ hw'; obtain ⟨⟨w1, hb⟩, rfl⟩ := hw'; (try dsimp only); first | (replace hb := Below.via hb (by with_reducible assumption); (try clear hbc hbf hbz); obtain ⟨hbc, hbf, hbz⟩ := bcell hb) | (obtain ⟨hbc, hbf, hbz⟩ := bcell hb))
      go_wp2_with fail
      go_ret
      exact ⟨⟨_, rfl, by rw [cycF_zero, ← HA.out, ← HD.out, HE.out]; exact OwnI.nil_⟩, hb⟩
    · have HE := Lib.hid he
      clear he
      go_enter Try.func85, Try.ntmps85
      go_wp2_with fail
      ((first | (with_reducible refine wp_region_from (by with_reducible assumption) follows (by kernel_rfl) ?_) | (refine wp_region_aft follows (by kernel_rfl) ?_)); (repeat (go_big_quiet_step ((go_at_call 98; exact aft_same (spec_bit_yes (f a) d _ hhm HE.out))))); refine wpQuiet_nil ?_; intro _ hw'; obtain ⟨⟨w1, hb⟩, rfl⟩ := hw'; (try dsimp only); first | (replace hb := Below.via hb (by with_reducible assumption); (try clear hbc hbf hbz); obtain ⟨hbc, hbf, hbz⟩ := bcell hb) | (obtain ⟨hbc, hbf, hbz⟩ := bcell hb))
      go_wp2_with fail
      go_ret
      exact ⟨⟨_, rfl, by rw [cycF_zero, ← HA.out, ← HD.out, HE.out, if_pos rfl]; exact HO.out.on hb⟩, hb⟩
  | succ k ih =>
    intro head q n A c A' c' B0 w hq hn h0 h4 hx hR hB hO
    have hla := lastN_at h0
    have hhe := headN_at h0
    have hlm : lastN head ≤ 3 := by rw [← hla]; exact hx _ (List.getElem_mem _)
    have hhm : headN head ≤ 3 := by rw [← hhe]; exact hx _ (List.getElem_mem _)
    obtain ⟨m, hm⟩ : ∃ m, q = m + 1 := ⟨head.length - 1, by omega⟩
    obtain ⟨g, cap, e1, hrest⟩ := OwnI.at_ (k := 0) (show OwnI w B0 3 (.slice A' (ci head).length c') (ci head) by rw [ci_len, ← hq]; exact hO) (by rw [ci_len]; exact h0)
    clear hrest
    injection e1 with eA _ eC
    subst eA eC
    obtain ⟨hg0, hg, hc0, hfz⟩ := OwnI.cells hO (k := 0) (by rw [ci_len]; exact h0)
    obtain ⟨_, _, hcm, _⟩ := OwnI.cells hO (k := m) (by rw [ci_len]; omega)
    rw [ci_at, hhe] at hc0
    rw [ci_at] at hcm
    simp only [show m = head.length - 1 by omega, hla] at hcm
    rw [show head.length - 1 = m by omega] at hcm
    obtain ⟨b, off, rfl, hb, hrow⟩ := mk4_row f hR hlm
    have HQ := Lib.hid (show m + 1 = head.length by omega)
    have HQC := Lib.hid (show m + 1 = (ci head).length by rw [ci_len]; omega)
    have HL := Lib.hid (show m + 1 ≤ maxLen by unfold maxLen; omega)
    have HL4 := Lib.hid (show (ci head).length ≤ 4 by rw [ci_len]; omega)
    clear hla hhe
    subst hm
    have HO := Lib.hid hO
    clear hO
    have hh0 := h0
    clear h0 hfz
    obtain ⟨a, ha⟩ : ∃ a, a = lastN head := ⟨_, rfl⟩
    obtain ⟨d, hd⟩ : ∃ d, d = headN head := ⟨_, rfl⟩
    rw [← ha] at hlm hcm hrow
    rw [← hd] at hhm hc0
    have HA := Lib.hid ha
    have HD := Lib.hid hd
    have ha4 : (a : Int) < 4 := by omega
    rw [← hq] at hn h4
    have hm3 : (m : Int) ≤ 3 := by omega
    clear ha hd hq
    have hnm : (((m : Int) + 1) == n) = false := beq_eq_false_iff_ne.2 (by omega)
    have HN := Lib.hid (show ∀ t : Nat, n = (((head ++ [t]).length + k : Nat) : Int) by intro t; have := HQ.out; simp; omega)
    have H4 := Lib.hid h4
    clear hn h4
    have HIH := Lib.hid ih
    clear ih
    have HX := Lib.hid hx
    have HH0 := Lib.hid hh0
    have HRd := Lib.hid hR
    clear hx hh0 hR
    go_enter Try.func85, Try.ntmps85
    go_wp2_with fail
    go_loopw [7, 8] (fun v7 _ wr => ∃ t : Nat, d < t ∧ t ≤ 4 ∧ v7 = .int .i64 t ∧ firstU (cycG f k head) (List.range t) = [] ∧ Below w.heap.size w wr) (fun v7 _ _ => 4 - (intOf v7).toNat)
    case atStart => exact ⟨d + 1, by omega, by omega, by simp, firstU_none (fun u hu => cycG_low (by rw [← HD.out]; have := List.mem_range.1 hu; omega)), Below.refl _ _⟩
    case round =>
      obtain ⟨t, hdt, ht4, rfl, hno, hbw⟩ := hrel
      have HNO := Lib.hid hno
      have HB := Lib.hid hbw
      clear hno hbw
      by_cases hlt : t < 4
      · have hlt' : (t : Int) < 4 := by omega
        have ht3 : t ≤ 3 := by omega
        have HOr := Lib.hid (HO.out.on HB.out)
        have k1 : wr.cell? ⟨b, off + a, none⟩ = some (.int .i64 (msk (f a))) := by rw [HB.out.cell (p := ⟨b, off + a, none⟩) hb]; exact hrow
        have k2 : wr.cell? ⟨g, m, none⟩ = some (.int .i64 (a : Int)) := by rw [HB.out.cell (p := ⟨g, m, none⟩) hg]; exact hcm
        have hbr : b < wr.heap.size := Nat.lt_of_lt_of_le hb HB.out.size
        have hgr : g < wr.heap.size := Nat.lt_of_lt_of_le hg HB.out.size
        have hBr := HB.out.size
        cases e1 : hasN head t
        · have HE1 := Lib.hid e1
          clear e1
          cases e2 : f a t
          · have HE2 := Lib.hid e2
            clear e2
            go_wp2_with (first
              | (go_at_call 97; refine (spec_hasN_any _ _ head _ t _ HQ.out HL.out HOr.out.rd).mono ?_; rintro e w1 ⟨rfl, rfl⟩; rw [HE1.out])
              | (go_at_call 98; refine (spec_bit_no (f a) t _ ht3 HE2.out).mono ?_; rintro e w1 ⟨rfl, rfl⟩))
            exact ⟨⟨t + 1, by omega, by omega, by go_num, by rw [firstU_next HNO.out]; exact cycG_off HA.out HE2.out, HB.out⟩, by simp [intOf]; omega⟩
          · have HE2 := Lib.hid e2
            clear e2
            have hmade := AppI.made (w := wr) (base := wr.heap.size) (E := 3) (Nat.le_refl _) #[] 0 (by simp [maxLen]) rfl
            have HMD := Lib.hid hmade
            clear hmade
            go_wp2_with (first
              | (go_at_call 97; refine (spec_hasN_any _ _ head _ t _ HQ.out HL.out HOr.out.rd).mono ?_; rintro e w1 ⟨rfl, rfl⟩; rw [HE1.out])
              | (go_at_call 98; refine (spec_bit_yes (f a) t _ ht3 HE2.out).mono ?_; rintro e w1 ⟨rfl, rfl⟩)
              | (at_builtin; refine wpList_app_is _ 24 3 i0 rfl _ _ rfl Try.underlying24 hi0 hz0 hz1 hz2 wr.heap.size _ [] rfl HMD.out (wr.alloc (.cells #[] 3)).heap.size g 0 (m + 1) c' (ci head) rfl HQC.out ((HOr.out.on (by (repeat' (first | (with_reducible exact Below.refl _ _) | (with_reducible assumption) | (with_reducible refine Below.al ?_ _) | (with_reducible refine Below.drew ?_) | (with_reducible refine Below.drN ?_ _) | (with_reducible refine Below.via (by with_reducible assumption) ?_) | (with_reducible refine Below.setc ?_ ?_ _) | (with_reducible exact Nat.le_refl _) | (simp; done) | (simp; omega))))).rd) (by have := HL4.out; simp; omega) (by simp) ?_; intro A2 c2 w2 hO2 hg2 hb2; have hz2' : wr.heap.size ≤ w2.heap.size := by have := hb2.size; simp at this; omega)
              | (at_builtin; refine wpList_app_i _ 24 3 i0 rfl _ _ rfl Try.underlying24 hi0 hz0 hz1 hz2 wr.heap.size _ _ rfl hO2 (t : Int) _ rfl (by first | rfl | simp) (by have := HL4.out; simp; omega) hz2' ?_; intro A3 c3 w3 hO3 hg3 hb3))
            have hB3 : Below w.heap.size w w3 := HB.out.trans (((Below.refl wr.heap.size wr).alloc (Nat.le_refl _) (.cells #[] 3)).trans (hb2.trans hb3) |>.mono hBr)
            have O3 := Lib.hid (show OwnI w3 wr.heap.size 3 (.slice A3 (([] ++ ci head).length + 1) c3) (ci (head ++ [t])) by have h := hO3.own; rw [ci_app]; unfold OwnI at h ⊢; simpa using h)
            have HB3 := Lib.hid hB3
            have hz3 : wr.heap.size ≤ w3.heap.size := Nat.le_trans hz2' hb3.size
            clear hO2 hO3 hg2 hg3 hb2 hb3 HMD hB3 k1 k2
            refine (HIH.out (head ++ [t]) _ n (some ⟨b, off, none⟩) c A3 c3 wr.heap.size w3 (by simp [ci_len]) (HN.out t) (by simp) (by have := H4.out; have := HQ.out; simp; omega) (fun x hx => by rcases List.mem_append.1 hx with h | h; exact HX.out x h; simp at h; omega) (HRd.out.on HB3.out) (by omega) O3.out).mono ?_
            rintro e w4 ⟨⟨v, rfl, hO4⟩, hb4⟩
            obtain ⟨A4, c4, rfl, _⟩ := hO4.reads
            have hG := cycG_yes (f := f) (k := k) (head := head) (t := t) (a := a) (by rw [← HD.out]; exact hdt) HE1.out HA.out HE2.out
            have HG := Lib.hid hG
            have HO4 := Lib.hid hO4
            have HB4 := Lib.hid (Below.via hb4 HB3.out)
            clear hG hO4 hb4
            by_cases hr : cycF f k (head ++ [t]) = []
            · have hr0 : (ci (cycF f k (head ++ [t]))).length = 0 := by rw [hr]; rfl
              have HRR := Lib.hid hr
              clear hr
              rw [hr0]
              go_wp2_with fail
              exact ⟨⟨t + 1, by omega, by omega, by go_num, by rw [firstU_next HNO.out, HG.out]; exact HRR.out, HB4.out⟩, by simp [intOf]; omega⟩
            · have hpos : (0 : Int) < ((ci (cycF f k (head ++ [t]))).length : Int) := by
                rw [ci_len]
                have := List.length_pos_iff.2 hr
                omega
              have HRR := Lib.hid hr
              clear hr
              go_wp2_with fail
              go_ret
              exact ⟨⟨_, rfl, by rw [cycF_succ, firstU_found HNO.out (by rw [HG.out]; exact HRR.out) hlt, HG.out]; exact HO4.out.low (by omega)⟩, HB4.out⟩
        · have HE1 := Lib.hid e1
          clear e1
          go_wp2_with (go_at_call 97; refine (spec_hasN_any _ _ head _ t _ HQ.out HL.out HOr.out.rd).mono ?_; rintro e w1 ⟨rfl, rfl⟩; rw [HE1.out])
          exact ⟨⟨t + 1, by omega, by omega, by go_num, by rw [firstU_next HNO.out]; exact cycG_has HE1.out, HB.out⟩, by simp [intOf]; omega⟩
      · have HT := Lib.hid (show t = 4 by omega)
        go_wp2_with fail
        go_ret
        exact ⟨⟨_, rfl, by rw [cycF_succ, ← HT.out, HNO.out]; exact OwnI.nil_⟩, HB.out⟩
theorem cycF_le4 (f : Nat → Nat → Bool) (n t : Nat) (hn : n ≤ 4) (h1 : 1 ≤ n) : (cycF f (n - 1) [t]).length ≤ 4 := by have := cycF_len f (n - 1) [t]; simp at this; omega
/-- What is tried for a length. -/
def cycN (f : Nat → Nat → Bool) (n : Nat) : Nat → List Nat := fun t => cycF f (n - 1) [t]
def cycA (f : Nat → Nat → Bool) : Nat → List Nat := fun n => if n < 2 then [] else firstU (cycN f n) [0, 1, 2, 3]
theorem cycL_eq (f : Nat → Nat → Bool) : cycL f = firstU (cycA f) (List.range 5) := rfl
theorem cycA_eq (f : Nat → Nat → Bool) {n : Nat} (h : 2 ≤ n) : cycA f n = firstU (cycN f n) (List.range 4) := by unfold cycA; rw [if_neg (by omega)]; rfl
set_option maxRecDepth 8192 in
set_option maxHeartbeats 4000000 in
theorem spec_cycle_any (f : Nat → Nat → Bool) (A : Option Addr) (c : Nat) (w : World) (hR : RdI w w.heap.size A (mk4 f)) :
    Calls Try.prog 64 #[.slice A 4 c] w fun e w' => (∃ v, e = .returned v ∧ OwnI w' w.heap.size 3 v (ci (cycL f))) ∧ Below w.heap.size w w' := by
  go_enter Try.func64, Try.ntmps64
  go_wp2_with fail
  go_loopw [3, 4, 5] (fun v3 _ _ wr => ∃ n : Nat, 2 ≤ n ∧ n ≤ 5 ∧ v3 = .int .i64 n ∧ firstU (cycA f) (List.range n) = [] ∧ Below w.heap.size w wr) (fun v3 _ _ _ => 5 - (intOf v3).toNat)
  case atStart => exact ⟨2, by omega, by omega, rfl, rfl, Below.refl _ _⟩
  case round =>
    obtain ⟨n, h2, h5, rfl, hno, hbw⟩ := hrel
    have HNO := Lib.hid hno
    have HB := Lib.hid hbw
    clear hno hbw
    by_cases hlt : n < 5
    · have hlt' : (n : Int) ≤ 4 := by omega
      go_wp2_with fail
      rename_i wo
      go_loopw [4, 5] (fun v4 _ wr => ∃ t : Nat, t ≤ 4 ∧ v4 = .int .i64 t ∧ firstU (cycN f n) (List.range t) = [] ∧ Below w.heap.size w wr) (fun v4 _ _ => 4 - (intOf v4).toNat)
      case atStart => exact ⟨0, by omega, rfl, rfl, HB.out⟩
      case round =>
        obtain ⟨t, ht, rfl, hnt, hbt⟩ := hrel
        have HNT := Lib.hid hnt
        have HBT := Lib.hid hbt
        clear hnt hbt
        have hBr : w.heap.size ≤ wr.heap.size := HBT.out.size
        by_cases htl : t < 4
        · have htl' : (t : Int) < 4 := by omega
          have hO0 : OwnI (wr.alloc (.cells #[.int .i64 (t : Int)] 3)) wr.heap.size 3 (.slice (some ⟨wr.heap.size, 0, none⟩) 1 1) (ci [t]) := .inr ⟨wr.heap.size, 1, #[.int .i64 (t : Int)], rfl, Nat.le_refl _, heap_alloc_new _ _, Nat.le_refl _, by simp [maxLen], rfl⟩
          have HO0 := Lib.hid hO0
          clear hO0
          go_wp2_with fail
          refine (spec_cycleFrom_any f (n - 1) [t] 1 n A c (some ⟨wr.heap.size, 0, none⟩) 1 wr.heap.size _ rfl (by simp; omega) (by simp) (by simp; omega) (fun x hx => by simp at hx; omega) (hR.on (Below.al HBT.out _)) (by simp) HO0.out).mono ?_
          rintro e w4 ⟨⟨v, rfl, hO4⟩, hb4⟩
          obtain ⟨A4, c4, rfl, _⟩ := hO4.reads
          have HO4 := Lib.hid hO4
          have HB4 := Lib.hid (Below.via hb4 (Below.al HBT.out _))
          clear hO4 hb4
          by_cases hr : cycF f (n - 1) [t] = []
          · have hr0 : (ci (cycF f (n - 1) [t])).length = 0 := by rw [hr]; rfl
            have HRR := Lib.hid hr
            clear hr
            rw [hr0]
            go_wp2_with fail
            exact ⟨⟨t + 1, by omega, by go_num, by rw [firstU_next HNT.out]; exact HRR.out, HB4.out⟩, by simp [intOf]; omega⟩
          · have hpos : (0 : Int) < ((ci (cycF f (n - 1) [t])).length : Int) := by
              rw [ci_len]
              have := List.length_pos_iff.2 hr
              omega
            have HRR := Lib.hid hr
            clear hr
            go_wp2_with fail
            go_ret
            have hfo : firstU (cycN f n) (List.range 4) = cycF f (n - 1) [t] := firstU_found HNT.out HRR.out htl
            exact ⟨⟨_, rfl, by rw [cycL_eq, firstU_found HNO.out (by rw [cycA_eq f h2, hfo]; exact HRR.out) hlt, cycA_eq f h2, hfo]; exact HO4.out.low hBr⟩, HB4.out⟩
        · have htt : t = 4 := by omega
          subst htt
          go_wp2_with fail
          exact ⟨⟨n + 1, by omega, by omega, by go_num, by rw [firstU_next HNO.out, cycA_eq f h2]; exact HNT.out, HBT.out⟩, by simp [intOf]; omega⟩
    · have hn : n = 5 := by omega
      subst hn
      go_wp2_with fail
      go_ret
      exact ⟨⟨_, rfl, by rw [cycL_eq, HNO.out]; exact OwnI.nil_⟩, HB.out⟩
end Go.Proofs.Ytaflkbemecjcpaa
