/- A tree of items: the plain side, a list of numbers that comes in, and the contracts of the small functions. -/
import Derived.Test.YtejipiadapggmaaHeld
import Derived.Test.YtejipiadapggmaaLaws
import Derived.ChangeSlices
namespace Go.Proofs.Ytejipiadapggmaa
set_option linter.unusedSimpArgs false
set_option linter.unusedVariables false
open Go.RowKit
section
open Go.ChangeShapes Go.WideShapes Go.Deep Go.Joins
variable {H : Type} {enc : TypeId × Value → H} {P : Program} {w : World} {base : Nat} {spare : Nat → Bool} {held : Bool}
theorem open_nums {t e : TypeId} {v : Value} {d : DataW H} {p : List MemPlace} {r : Reach} {b0 : Nat} (ht : P.underlying t = some (.slice e)) (he : P.underlying e = some (.int .i64)) (hC : P.cellsOf e = 1)
    (hv : Value.okWide P w r b0 t v) (h : DataW.Trod enc P w base spare held t v d p) :
    ∃ (A : Option Addr) (c : Nat) (l : List Int), v = .slice A l.length c ∧ l.length ≤ maxLen ∧ RdI w w.heap.size A l ∧ ∀ n ∈ l, (Lit.int .i64 n).wf = true := by
  obtain ⟨a0, len, cap, rfl⟩ := okWide_slice ht hv
  obtain ⟨fuel, hf⟩ := h
  rcases open_ints ht he hC hf with ⟨hcs, _⟩ | ⟨a, len', cap', zs, hcs, hb, hl, hm, hz, hx, hc, hw⟩
  · simp [Value.cells] at hcs
    obtain ⟨rfl, rfl, rfl⟩ := hcs
    exact ⟨none, 0, [], rfl, by simp [maxLen], RdI.nil, by simp⟩
  · simp [Value.cells] at hcs
    obtain ⟨rfl, rfl, rfl⟩ := hcs
    have hlz : len ≤ zs.length := by rw [hz]; split <;> omega
    have htl : (zs.take len).length = len := by rw [List.length_take]; omega
    refine ⟨some a, cap, zs.take len, by rw [htl], by rw [htl]; omega, fun hne => ?_, fun n hn => hw n (List.mem_of_mem_take hn)⟩
    have hpos : 0 < len := by
      rcases Nat.eq_zero_or_pos len with h0 | h0
      · exact absurd (by rw [h0]; simp) hne
      · exact h0
    obtain ⟨b, off, spot⟩ := a
    have hspot : spot = none := by
      have h0 := hc 0 (by omega)
      have hsp := World.cell?_spot h0
      simpa [Addr.add] using hsp
    subst hspot
    have h0 := hc 0 (by omega)
    simp only [addr_add] at h0 hc
    refine ⟨b, off, rfl, World.block_lt_of_cell? w _ h0, fun k hk => ?_⟩
    have hk' : k < zs.length := by rw [htl] at hk; omega
    rw [hc k hk', List.getElem_take]
    simp [List.getD, List.getElem?_eq_getElem hk']
end
theorem made_zeros1 (n : Nat) : (madeCells (Value.int .i64 0).cells (n * 1)).toList = cellsI (List.replicate n 0) := by
  apply List.ext_getElem?
  intro j
  by_cases hj : j < n
  · simp [madeCells, cellsI, hj, Value.cells, List.getElem?_replicate, Nat.mod_one]
  · simp [madeCells, cellsI, hj, Value.cells, List.getElem?_replicate]
theorem info_I64 : (Try.prog.info? 3).map (fun i => (i.zero, i.size, i.bytes)) = some (some (.int .i64 0), 1, 8) := by kernel_rfl
set_option maxHeartbeats 400000 in
theorem laws_toIntS_any (A : Option Addr) (c : Nat) (l : List Int) (w : World) (hl : l.length ≤ 1048576) (hR : RdI w w.heap.size A l) :
    Calls Try.prog 24 #[.slice A l.length c] w fun e w' => (∃ g, e = .returned (.slice (some ⟨g, 0, none⟩) l.length l.length) ∧ OwnI w' w.heap.size 3 (.slice (some ⟨g, 0, none⟩) l.length l.length) l) ∧ Below w.heap.size w w' := by
  obtain ⟨i0, hi0, hz0, hz1, hz2⟩ := info_parts info_I64
  have hb1 : i0.bytes * l.length ≤ 281474976710656 := by rw [hz2]; omega
  have hb2 : l.length ≤ maxLen := by unfold maxLen; omega
  have H1 := Lib.hid hb1; clear hb1
  have H2 := Lib.hid hb2; clear hb2
  go_enter Try.func24, Try.ntmps24
  go_wp2_with (at_make; refine wpList_make_full _ rfl _ _ 24 rfl w.heap.size 3 i0 _ 1 Try.underlying24 hi0 hz0 hz1 .i64 .i64 _ _ l.length rfl rfl rfl rfl H1.out H2.out (Nat.le_refl _) ?_; intro W hO hg)
  rw [made_zeros1] at hO
  have hB : Below w.heap.size w W := (Below.refl _ _).grown hg (Nat.le_refl _) (by simp)
  replace hO : OwnI W w.heap.size 3 (.slice (some ⟨w.heap.size, 0, none⟩) l.length l.length) (List.replicate l.length 0) := by
    unfold OwnI; rw [List.length_replicate]; exact OwnG.of_row hO
  clear hg
  go_loopw [4] (fun i wr => ∃ k : Nat, k ≤ l.length ∧ i = .int .i64 k ∧ OwnI wr w.heap.size 3 (.slice (some ⟨w.heap.size, 0, none⟩) l.length l.length) (l.take k ++ List.replicate (l.length - k) 0) ∧ Below w.heap.size w wr) (fun i _ => l.length - (intOf i).toNat)
  case atStart => exact ⟨0, Nat.zero_le _, rfl, by simpa using hO, hB⟩
  case round =>
    obtain ⟨k, hk, rfl, hown, hbw⟩ := hrel
    have HO := Lib.hid hown; clear hown hO
    have HB := Lib.hid hbw; clear hbw
    by_cases hlt : k < l.length
    · obtain ⟨b, off, rfl, hb, h0⟩ := (hR.on HB.out).at_ hlt
      have hlen : k < (l.take k ++ List.replicate (l.length - k) (0 : Int)).length := by rw [take_zeros_len hk]; exact hlt
      obtain ⟨hq, s0, s1, sf⟩ := OwnI.cells HO.out hlen
      go_wp2
      refine ⟨⟨k + 1, by omega, by go_num, ?_, (HB.out).setCell (p := ⟨w.heap.size, k, none⟩) (Nat.le_refl _) _⟩, by simp [intOf]; omega⟩
      have h := OwnI.set_ HO.out (take_zeros_len hk).symm k l[k]
      rw [← take_set_next hlt]
      exact h
    · have hk' : k = l.length := by omega
      have HK := Lib.hid hk'; clear hk'
      go_wp2
      go_ret
      exact ⟨⟨_, rfl, by have h := HO.out; rw [HK.out] at h; simpa using h⟩, HB.out⟩
/-! ### the plain side -/
def okX (p : List Int) (x : Nat) : Bool := if h : x < p.length then (inR p[x] (-1) ((x : Int) - 1) && !(decide (0 < x) && decide (p[x] < 0))) else true
def trB (p : List Int) : Bool := (List.range p.length).all (okX p) && p.length == 3
theorem okX_eq {p : List Int} {x : Nat} (h : x < p.length) : okX p x = (inR p[x] (-1) ((x : Int) - 1) && !(decide (0 < x) && decide (p[x] < 0))) := by unfold okX; rw [dif_pos h]
theorem tr_vals {p : List Int} (h : trB p = true) : p.length = 3 ∧ ∀ x (hx : x < p.length), (-1 ≤ p[x] ∧ p[x] < x) := by
  unfold trB at h
  simp only [Bool.and_eq_true, beq_iff_eq] at h
  refine ⟨h.2, fun x hx => ?_⟩
  have h1 := List.all_eq_true.1 h.1 x (List.mem_range.2 hx)
  rw [okX_eq hx] at h1
  simp [inR] at h1
  omega
theorem tr_iff (p : List Int) : trB p = true ↔ ∃ a b c, p = [a, b, c] ∧ a = -1 ∧ b = 0 ∧ 0 ≤ c ∧ c ≤ 1 := by
  constructor
  · intro h
    unfold trB at h
    simp only [Bool.and_eq_true, beq_iff_eq] at h
    obtain ⟨h1, h2⟩ := h
    match p, h2 with
    | [a, b, c], _ =>
      have q0 := List.all_eq_true.1 h1 0 (List.mem_range.2 (by simp))
      have q1 := List.all_eq_true.1 h1 1 (List.mem_range.2 (by simp))
      have q2 := List.all_eq_true.1 h1 2 (List.mem_range.2 (by simp))
      rw [okX_eq (by simp)] at q0 q1 q2
      simp [inR] at q0 q1 q2
      exact ⟨a, b, c, rfl, by omega, by omega, by omega, by omega⟩
  · rintro ⟨a, b, c, rfl, rfl, rfl, h1, h2⟩
    unfold trB
    have e : List.range [(-1 : Int), 0, c].length = [0, 1, 2] := rfl
    rw [e]
    simp [okX, inR]
    omega
/-- The items that a transaction owns in the first k steps. -/
def tkL (l : List O3) (t : Int) (k : Nat) : List Int := ((l.take k).filter fun o => o.tx == t && o.kind == 1).map O3.item
theorem tk_yes {l : List O3} {t : Int} {k : Nat} (hk : k < l.length) (h1 : l[k].tx = t) (h2 : l[k].kind = 1) : tkL l t (k + 1) = tkL l t k ++ [l[k].item] := by
  unfold tkL
  rw [List.take_succ_eq_append_getElem hk, List.filter_append, List.map_append]
  simp [h1, h2]
theorem tk_no {l : List O3} {t : Int} {k : Nat} (hk : k < l.length) (h : (l[k].tx == t && l[k].kind == 1) = false) : tkL l t (k + 1) = tkL l t k := by
  unfold tkL
  rw [List.take_succ_eq_append_getElem hk, List.filter_append, List.map_append]
  simp [h]
theorem tk_le (l : List O3) (t : Int) (k : Nat) : (tkL l t k).length ≤ k := by
  unfold tkL
  rw [List.length_map]
  exact Nat.le_trans (List.length_filter_le _ _) (by rw [List.length_take]; omega)
def parI (p : List Int) (x : Int) : Int := if h : x.toNat < p.length then p[x.toNat] else -1
/-- A step breaks the rule of the tree. -/
def tlBad (l : List O3) (p : List Int) (i : Nat) : Bool := if h : i < l.length then
    (l[i].kind == 0 || (l[i].kind == 1 && ((tkL l l[i].tx i).contains l[i].item || (!(tkL l l[i].tx i).isEmpty && (decide (parI p l[i].item < 0) || !(heldTo l l[i].tx (parI p l[i].item) i == 1))))))
  else false
theorem tlBad_eq {l : List O3} {p : List Int} {i : Nat} (h : i < l.length) : tlBad l p i = (l[i].kind == 0 || (l[i].kind == 1 && ((tkL l l[i].tx i).contains l[i].item || (!(tkL l l[i].tx i).isEmpty && (decide (parI p l[i].item < 0) || !(heldTo l l[i].tx (parI p l[i].item) i == 1)))))) := by
  unfold tlBad; rw [dif_pos h]
noncomputable def tlB (l : List O3) (p : List Int) : Bool := tt (∀ i, i < l.length → tlBad l p i = false)
noncomputable def tlV (l : List O3) (p : List Int) : Bool := stepsB l && (trB p && tlB l p)
set_option maxHeartbeats 1000000 in
theorem spec_validTree_any (A : Option Addr) (c : Nat) (p : List Int) (w : World) (hl : p.length ≤ 1048576) (hw : ∀ n ∈ p, (Lit.int .i64 n).wf = true) (hR : RdI w w.heap.size A p) :
    Calls Try.prog 48 #[.slice A p.length c] w fun e w' => e = .returned (.bool (trB p)) ∧ w = w' := by
  go_enter Try.func48, Try.ntmps48
  go_wp2_with fail
  go_loop [3] (fun v3 => ∃ k : Nat, k ≤ p.length ∧ v3 = .int .i64 k ∧ ((List.range p.length).take k).all (okX p) = true) (fun v3 => p.length - (intOf v3).toNat)
  case atStart => exact ⟨0, Nat.zero_le _, rfl, rfl⟩
  case round =>
    obtain ⟨k, hk, rfl, hall⟩ := hrel
    have HA := Lib.hid hall; clear hall
    by_cases hlt : k < p.length
    · obtain ⟨b, off, rfl, hb, h0⟩ := hR.at_ hlt
      have HK := Lib.hid (show k < (List.range p.length).length by simpa using hlt)
      have hok := okX_eq hlt
      cases e1 : inR p[k] (-1) ((k : Int) - 1)
      · have HN := Lib.hid (show trB p = false by unfold trB; rw [all_false HK.out (by rw [List.getElem_range, hok, e1]; rfl)]; rfl)
        clear hok
        go_wp2_with (go_at_call 56; refine (spec_inRange_any _ _ _ _).mono ?_; rintro e w1 ⟨rfl, rfl⟩; rw [e1])
        go_ret
        exact ⟨ret_bool HN.out.symm, rfl⟩
      · cases e2 : (decide (0 < k) && decide (p[k] < 0))
        · have HN := Lib.hid (take_all_succ HK.out HA.out (by rw [List.getElem_range, hok, e1, e2]; rfl))
          clear hok
          have e3 : (0 < k ∧ p[k] < 0) → False := by intro h; simp [h.1, h.2] at e2
          by_cases hk0 : (0 : Int) < k
          · have hp0 : ¬ p[k] < 0 := fun h => e3 ⟨by omega, h⟩
            clear e2 e3
            go_wp2_with (go_at_call 56; refine (spec_inRange_any _ _ _ _).mono ?_; rintro e w1 ⟨rfl, rfl⟩; rw [e1])
            exact ⟨⟨k + 1, by omega, by go_num, HN.out⟩, by simp [intOf]; omega⟩
          · clear e2 e3
            go_wp2_with (go_at_call 56; refine (spec_inRange_any _ _ _ _).mono ?_; rintro e w1 ⟨rfl, rfl⟩; rw [e1])
            exact ⟨⟨k + 1, by omega, by go_num, HN.out⟩, by simp [intOf]; omega⟩
        · have HN := Lib.hid (show trB p = false by unfold trB; rw [all_false HK.out (by rw [List.getElem_range, hok, e1, e2]; rfl)]; rfl)
          clear hok
          have hk0 : (0 : Int) < k := by simp at e2; omega
          have hp0 : p[k] < 0 := by simp at e2; omega
          clear e2
          go_wp2_with (go_at_call 56; refine (spec_inRange_any _ _ _ _).mono ?_; rintro e w1 ⟨rfl, rfl⟩; rw [e1])
          go_ret
          exact ⟨ret_bool HN.out.symm, rfl⟩
    · have hk' : k = p.length := by omega
      have HN := Lib.hid (show trB p = (p.length == 3) by
        have h := HA.out
        rw [hk', List.take_of_length_le (by simp)] at h
        unfold trB; rw [h, Bool.true_and])
      clear hk'
      go_wp2
      go_ret
      have e3 : ((p.length : Int) == 3) = (p.length == 3) := by rw [Bool.eq_iff_iff]; simp; omega
      exact ⟨ret_bool (by rw [HN.out]; first | exact e3 | rfl | exact e3.symm), rfl⟩
set_option maxHeartbeats 1000000 in
theorem impl_treeOk_any (A : Option Addr) (c : Nat) (p : List Int) (w : World) (hl : p.length ≤ 1048576) (hw : ∀ n ∈ p, (Lit.int .i64 n).wf = true) (hR : RdI w w.heap.size A p) :
    Calls Try.prog 50 #[.slice A p.length c] w fun e w' => e = .returned (.bool (trB p)) ∧ w = w' := by
  by_cases h3 : p.length = 3
  · match p, h3, hR with
    | [a, b, d], _, hR =>
      obtain ⟨b0, off, rfl, hb, q0⟩ := hR.at_ (k := 0) (by simp)
      obtain ⟨b1, off1, he, hb1, q1⟩ := hR.at_ (k := 1) (by simp)
      injection he with he; injection he with he1 he2
      subst he1 he2
      obtain ⟨b1, off1, he, hb1, q2⟩ := hR.at_ (k := 2) (by simp)
      injection he with he; injection he with he1 he2
      subst he1 he2
      simp only [List.getElem_cons_zero, List.getElem_cons_succ, Nat.add_zero] at q0 q1 q2
      have HTI := Lib.hid (tr_iff [a, b, d])
      cases ea : (a == -1)
      · have HN := Lib.hid (show trB [a, b, d] = false by
          rw [Bool.eq_false_iff]; intro h
          obtain ⟨x, y, z, e, h1, _⟩ := HTI.out.1 h
          simp at e; simp at ea; omega)
        have ea' : (a != -1) = true := by rw [bne, ea]; rfl
        clear ea
        go_enter Try.func50, Try.ntmps50
        go_wp2
        go_ret
        exact ⟨ret_bool HN.out.symm, rfl⟩
      · have ha : a = -1 := by simpa using ea
        subst ha
        clear ea
        go_enter Try.func50, Try.ntmps50
        go_wp2_with fail
        go_loop [3] (fun v3 => ∃ k : Nat, 1 ≤ k ∧ k ≤ 3 ∧ v3 = .int .i64 k ∧ (2 ≤ k → b = 0) ∧ (3 ≤ k → 0 ≤ d ∧ d ≤ 1)) (fun v3 => 3 - (intOf v3).toNat)
        case atStart => exact ⟨1, by omega, by omega, rfl, fun h => by omega, fun h => by omega⟩
        case round =>
          obtain ⟨k, hk1, hk3, rfl, hb2, hd3⟩ := hrel
          rcases (show k = 1 ∨ k = 2 ∨ k = 3 by omega) with rfl | rfl | rfl
          · clear hb2 hd3
            cases e1 : inR b 0 0
            · have HN := Lib.hid (show trB [-1, b, d] = false by
                rw [Bool.eq_false_iff]; intro h
                obtain ⟨x, y, z, e, h1, h2, _⟩ := HTI.out.1 h
                simp at e; simp [inR] at e1; omega)
              go_wp2_with (go_at_call 59; refine (impl_within_any _ _ _ _).mono ?_; rintro e w2 ⟨rfl, rfl⟩; rw [e1])
              go_ret
              exact ⟨ret_bool HN.out.symm, rfl⟩
            · have HB := Lib.hid (show b = 0 by simp [inR] at e1; omega)
              go_wp2_with (go_at_call 59; refine (impl_within_any _ _ _ _).mono ?_; rintro e w2 ⟨rfl, rfl⟩; rw [e1])
              exact ⟨⟨2, by omega, by omega, rfl, fun _ => HB.out, fun h => by omega⟩, by simp [intOf]⟩
          · have HB := Lib.hid (hb2 (by omega))
            clear hb2 hd3
            cases e1 : inR d 0 1
            · have HN := Lib.hid (show trB [-1, b, d] = false by
                rw [Bool.eq_false_iff]; intro h
                obtain ⟨x, y, z, e, h1, h2, h4, h5⟩ := HTI.out.1 h
                simp at e; simp [inR] at e1; omega)
              go_wp2_with (go_at_call 59; refine (impl_within_any _ _ _ _).mono ?_; rintro e w2 ⟨rfl, rfl⟩; rw [e1])
              go_ret
              exact ⟨ret_bool HN.out.symm, rfl⟩
            · have HD := Lib.hid (show 0 ≤ d ∧ d ≤ 1 by simp [inR] at e1; omega)
              go_wp2_with (go_at_call 59; refine (impl_within_any _ _ _ _).mono ?_; rintro e w2 ⟨rfl, rfl⟩; rw [e1])
              exact ⟨⟨3, by omega, by omega, rfl, fun _ => HB.out, fun _ => HD.out⟩, by simp [intOf]⟩
          · have HN := Lib.hid (HTI.out.2 ⟨-1, b, d, rfl, rfl, hb2 (by omega), (hd3 (by omega)).1, (hd3 (by omega)).2⟩)
            clear hb2 hd3
            go_wp2
            go_ret
            exact ⟨ret_bool HN.out.symm, rfl⟩
  · have HN := Lib.hid (show trB p = false by unfold trB; rw [show (p.length == 3) = false by simpa using h3, Bool.and_false])
    have h3' : ((p.length : Int) != 3) = true := by simp; omega
    go_enter Try.func50, Try.ntmps50
    go_wp2
    go_ret
    exact ⟨ret_bool HN.out.symm, rfl⟩
end Go.Proofs.Ytejipiadapggmaa
