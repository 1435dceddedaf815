/- IsSerializable: the reference's topological. -/
import Derived.Deep.AppendLies
import Derived.Deep.RegionLaw
import Derived.Deep.CutRange
import Derived.Test.YtaflkbemecjcpaaSeM
import Derived.Test.YtaflkbemecjcpaaCyS
import Derived.Test.YtaflkbemecjcpaaCfs
namespace Go.Proofs.Ytaflkbemecjcpaa
set_option linter.unusedSimpArgs false
set_option linter.unusedVariables false
open Go.RowKit

/-- A slice of slices of the call's own; what its rows hold is not told. -/
def RwV (w : World) (B : Nat) (A : Option Addr) (n c : Nat) : Prop := ∃ xs : List Value, (∀ u ∈ xs, u.oneCell' = true) ∧ w.ownsRow B 24 1 (.slice A n c) n xs
theorem RwV.on {w w' : World} {B n c : Nat} {A : Option Addr} (h : RwV w B A n c) (hb : Below w.heap.size w w') : RwV w' B A n c := by
  obtain ⟨xs, h1, h2⟩ := h
  exact ⟨xs, h1, row_kept h2 hb.block⟩
theorem RwV.low {w : World} {B B' n c : Nat} {A : Option Addr} (h : RwV w B A n c) (hB : B' ≤ B) : RwV w B' A n c := by
  obtain ⟨xs, h1, h2, h3⟩ := h
  refine ⟨xs, h1, h2, ?_⟩
  rcases h3 with h3 | ⟨g, cap, cur, e, hb, r⟩
  · exact .inl h3
  · exact .inr ⟨g, cap, cur, e, by omega, r⟩
theorem sumU_le {g : Nat → Nat} {M : Nat} (h : ∀ u, g u ≤ M) : ∀ l : List Nat, sumU g l ≤ l.length * M
  | [] => by simp [sumU]
  | x :: l => by
    have := sumU_le h l
    have := h x
    simp only [sumU, List.length_cons, Nat.add_mul, Nat.one_mul]
    omega
theorem sumU_next {g : Nat → Nat} {l : List Nat} {k : Nat} (hk : k < l.length) : sumU g (l.take (k + 1)) = sumU g (l.take k) + g l[k] := by
  have : ∀ (l m : List Nat), sumU g (l ++ m) = sumU g l + sumU g m := by
    intro l m
    induction l with
    | nil => simp [sumU]
    | cons x l ih => simp only [List.cons_append, sumU, ih]; omega
  rw [List.take_succ_eq_append_getElem hk, this]
  simp [sumU]
theorem top_le (f : Nat → Nat → Bool) {L : List Nat} (hL : L.length ≤ 4) : ∀ (k : Nat) (p : List Nat), topN f L k p ≤ 4 ^ k
  | 0, p => by simp [topN]
  | k + 1, p => by
    rw [topN, Nat.pow_succ]
    refine Nat.le_trans (sumU_le (M := 4 ^ k) (fun t => ?_) L) (by rw [Nat.mul_comm]; exact Nat.mul_le_mul_left _ hL)
    split
    · exact top_le f hL k _
    · exact Nat.zero_le _
/-- What one node adds. -/
def topG (f : Nat → Nat → Bool) (L : List Nat) (k : Nat) (p : List Nat) : Nat → Nat := fun t => if okT f L p t then topN f L k (p ++ [t]) else 0
theorem topN_succ (f : Nat → Nat → Bool) (L : List Nat) (k : Nat) (p : List Nat) : topN f L (k + 1) p = sumU (topG f L k p) L := rfl
/-- So far every one that leads to t is there. -/
def okTo (f : Nat → Nat → Bool) (L : List Nat) (p : List Nat) (t : Nat) (j : Nat) : Bool := !(hasN p t) && (L.take j).all fun u => !(f u t) || hasN p u
theorem okTo_end (f : Nat → Nat → Bool) (L p : List Nat) (t : Nat) : okTo f L p t L.length = okT f L p t := by unfold okTo okT; rw [List.take_length]
theorem okTo_next {f : Nat → Nat → Bool} {L p : List Nat} {t j : Nat} (hj : j < L.length) : okTo f L p t (j + 1) = (okTo f L p t j && (!(f L[j] t) || hasN p L[j])) := by
  unfold okTo
  rw [List.take_succ_eq_append_getElem hj, List.all_append, Bool.and_assoc]
  simp
theorem okTo_false {f : Nat → Nat → Bool} {L p : List Nat} {t j : Nat} (h : okTo f L p t j = false) : okT f L p t = false := by
  rw [Bool.eq_false_iff]
  intro e
  unfold okT at e
  rw [Bool.and_eq_true, List.all_eq_true] at e
  have : okTo f L p t j = true := by
    unfold okTo
    rw [Bool.and_eq_true, List.all_eq_true]
    exact ⟨e.1, fun u hu => e.2 u (List.mem_of_mem_take hu)⟩
  rw [h] at this; cases this
theorem ci_cell {w : World} {B b off : Nat} {L : List Nat} (h : RdI w B (some ⟨b, off, none⟩) (ci L)) {i : Nat} (hi : i < L.length) : b < B ∧ w.cell? ⟨b, off + i, none⟩ = some (.int .i64 (L[i] : Nat)) := by
  obtain ⟨b', off', e, hb, hc⟩ := h.at_ (k := i) (by rw [ci_len]; exact hi)
  injection e with e
  injection e with e1 e2
  subst e1 e2
  exact ⟨hb, by rw [hc, ci_at]⟩
theorem own0 {W : World} {g b0 : Nat} {E : TypeId} (h : W.heap[g]? = some (.cells #[] E (0, 0))) (hb : b0 ≤ g) : W.ownsRow b0 E 1 (.slice (some ⟨g, 0, none⟩) 0 0) 0 [] :=
  ⟨rfl, .inr ⟨g, 0, #[], rfl, hb, h, Nat.le_refl _, by simp [maxLen], rfl, rfl⟩⟩
theorem heap1 (W : World) (o : Obj) : (W.alloc o).heap[W.heap.size]? = some o := heap_alloc_new W o
theorem heap2a (W : World) (o o' : Obj) : ((W.alloc o).alloc o').heap[W.heap.size]? = some o := (Below.heap_alloc _ _ _ (by simp)).trans (heap_alloc_new W o)
theorem heap2b (W : World) (o o' : Obj) : ((W.alloc o).alloc o').heap[W.heap.size + 1]? = some o' := by have h := heap_alloc_new (W.alloc o) o'; rw [World.size_alloc] at h; exact h
theorem news1 {W : World} {g : Nat} {E : TypeId} {x : Value} (h : W.heap[g]? = some (.cells #[x] E (0, 0))) : ∀ j u, ([x] : List Value)[j]? = some u → W.cell? ((⟨g, 0, none⟩ : Addr).add j) = some u := by
  intro j u hj
  rw [addr_add, Nat.zero_add, cell_of_row W g j #[x] E (0, 0) h]
  cases j with
  | zero => simpa using hj
  | succ j => simp at hj
theorem head_rd {w : World} {B q t g c : Nat} {p : List Nat} (hq : q = p.length) (h : w.ownsRow B 3 1 (.slice (some ⟨g, 0, none⟩) (q + 1) c) (q + 1) (cellsI (ci p) ++ [.int .i64 (t : Int)])) : RdI w w.heap.size (some ⟨g, 0, none⟩) (ci (p ++ [t])) := by
  subst hq
  refine OwnI.rd (base := B) (E := 3) (n := p.length + 1) (c := c) ?_
  have h' := OwnG.of_row h
  unfold OwnI
  rw [ci_len]
  simpa [ci_app, cellsI] using h'
theorem row_cells {w : World} {B g n c : Nat} {E : TypeId} {ys : List Value} (h : w.ownsRow B E 1 (.slice (some ⟨g, 0, none⟩) n c) n ys) : ∀ j u, ys[j]? = some u → w.cell? ((⟨g, 0, none⟩ : Addr).add j) = some u := by
  intro j u hj
  have hl := h.1
  have hlt := (List.getElem?_eq_some_iff.1 hj).1
  rw [addr_add, Nat.zero_add, h.cellAt j (by omega)]
  exact hj
/-- append at a step of a region that draws, onto a slice of the call's own. -/
theorem step_append_own {P : Program} {ops : Array Oper} {o : Oper} {a : Act} {w : World} {K : Act → World → Prop} {Q : Exit → Act → World → Prop} {X : Prop}
    (hg : o.guard = none) (s x : Operand) (t : TypeId) (hop : o.op = Op.call { callee := Callee.builtin Builtin.append, args := #[s, x], argTypes := #[t, t] })
    (base : Nat) (e : TypeId) (i : TypeInfo) (z : Value) (bytes : Nat) (ht : P.underlying t = some (.slice e)) (hi : P.info? e = some i) (hz : i.zero = some z) (hsize : i.size = 1) (hby : i.bytes = bytes) (hzs : z.cells.size = 1)
    (g0 c0 n : Nat) (xs : List Value) (hs : a.eval s = .slice (some ⟨g0, 0, none⟩) n c0) (hown : w.ownsRow base e 1 (.slice (some ⟨g0, 0, none⟩) n c0) n xs)
    (ad : Addr) (m c : Nat) (news : List Value) (hx : a.eval x = .slice (some ad) m c) (hl : news.length = m * 1) (hnews : ∀ j u, news[j]? = some u → w.cell? (ad.add j) = some u) (h1 : ∀ u ∈ news, u.oneCell' = true)
    (h63 : n + m ≤ maxLen) (hbytes : (n + m) * bytes ≤ 140737488355328) (hbase : base ≤ w.heap.size) (w0 : World) (hbel : Below base w0 w)
    (h : ∀ g' c' w', w'.ownsRow base e 1 (.slice (some ⟨g', 0, none⟩) (n + m) c') (n + m) (xs ++ news) → w.grownBy w' (some g0) → Below base w0 w' → K (a.put o.dst (.slice (some ⟨g', 0, none⟩) (n + m) c')) w') :
    if Region.wanted o (yielded ops a.tmps) = true then Oper.wp P o a w K Q else X := by
  have hw : Region.wanted o (yielded ops a.tmps) = true := by simp [Region.wanted, hg]
  rw [if_pos hw]
  obtain ⟨v', w', hr, h2, h3, _, h5⟩ := run_append_own_at (P := P) w base t o.type e i z 1 bytes ht hi hz hsize hby hzs (by decide) _ n xs hown ad m c news hl hnews h1 h63 hbytes hbase
  have hf : ∃ g' c', v' = .slice (some ⟨g', 0, none⟩) (n + m) c' := by
    rcases h2.2 with ⟨rfl, _⟩ | ⟨g', cap, cur, e', _⟩
    · rcases h5 with h5 | h5 <;> simp [Value.ownBlock] at h5
    · exact ⟨g', cap, e'⟩
  obtain ⟨g', c', rfl⟩ := hf
  unfold Oper.wp execOp
  simp only [hop, resolve, invoke, builtin, Sem.run_bind, Sem.run_pure, Result.andThen_ok, List.map_toArray, List.map_cons, List.map_nil, hs, hx, hr]
  exact h g' c' w' h2 h3 (hbel.grown h3 hbase (fun k hk => (hown.lt k hk).1))
set_option maxRecDepth 8192 in
set_option maxHeartbeats 4000000 in
theorem spec_topological_any (f : Nat → Nat → Bool) (L : List Nat) (hL4 : L.length ≤ 4) (hL3 : ∀ x ∈ L, x ≤ 3) : ∀ (k : Nat) (p : List Nat) (q lb lo cL gb go cG eb ho cH : Nat) (w : World), q = p.length → p.length + k = L.length → RdI w w.heap.size (some ⟨lb, lo, none⟩) (ci L) → RdI w w.heap.size (some ⟨gb, go, none⟩) (mk4 f) → RdI w w.heap.size (some ⟨eb, ho, none⟩) (ci p) →
    Calls Try.prog 82 #[.slice (some ⟨lb, lo, none⟩) L.length cL, .slice (some ⟨gb, go, none⟩) 4 cG, .slice (some ⟨eb, ho, none⟩) q cH] w fun e w' => (∃ g c, e = .returned (.slice (some ⟨g, 0, none⟩) (topN f L k p) c) ∧ RwV w' w.heap.size (some ⟨g, 0, none⟩) (topN f L k p) c) ∧ Below w.heap.size w w' := by
  obtain ⟨i0, hi0, hz0, hz1, hz2⟩ := info_parts info_I
  obtain ⟨n0, hn0, hm0, hm1, hm2⟩ := info_parts info_N
  intro k
  induction k with
  | zero =>
    intro p q lb lo cL gb go cG eb ho cH w hq hk hR1 hR2 hR3
    have HQC := Lib.hid (show q = (ci p).length by rw [ci_len]; exact hq)
    have hql : q = L.length := by omega
    have hmade := AppI.made (w := w) (base := w.heap.size) (E := 3) (Nat.le_refl _) #[] 0 (by simp [maxLen]) rfl
    have HMD := Lib.hid hmade
    have HL4 := Lib.hid (show (ci p).length ≤ 4 by rw [ci_len]; omega)
    clear hmade hq hk
    subst hql
    go_enter Try.func82, Try.ntmps82
    go_wp2_with (at_builtin; refine wpList_app_is _ 24 3 i0 rfl _ _ rfl Try.underlying24 hi0 hz0 hz1 hz2 w.heap.size _ [] rfl HMD.out (w.alloc (.cells #[] 3)).heap.size eb ho L.length cH (ci p) rfl HQC.out ((hR3.on (by (repeat' (first | (with_reducible exact Below.refl _ _) | (with_reducible assumption) | (with_reducible refine Below.al ?_ _) | (with_reducible refine Below.drew ?_) | (with_reducible refine Below.drN ?_ _) | (with_reducible refine Below.via (by with_reducible assumption) ?_) | (with_reducible refine Below.setc ?_ ?_ _) | (with_reducible exact Nat.le_refl _) | (simp; done) | (simp; omega)))))) (by have := HL4.out; simp; omega) (by simp) ?_; intro A2 c2 w2 hO2 hg2 hb2)
    go_ret
    refine ⟨⟨w2.heap.size, 1, rfl, [_], ?_, World.ownsRow_lit (size := 1) (w := w2) #[_] 1 ?_ ?_ rfl⟩, ?_⟩
    · intro u hu
      simp at hu
      subst hu
      simp [Value.oneCell']
    · have := hb2.size
      simp at this
      omega
    · simp [maxLen]
    · have h0 := ((Below.refl w.heap.size w).alloc (Nat.le_refl _) (.cells #[] 3)).trans hb2
      exact h0.alloc h0.size _
  | succ k ih =>
    intro p q lb lo cL gb go cG eb ho cH w hq hk hR1 hR2 hR3
    have HQ := Lib.hid hq
    have HK := Lib.hid hk
    have HIH := Lib.hid ih
    have HR1 := Lib.hid hR1
    have HR2 := Lib.hid hR2
    have HR3 := Lib.hid hR3
    have HQM := Lib.hid (show q ≤ maxLen by unfold maxLen; omega)
    have hqne : ((q : Int) == (L.length : Int)) = false := beq_eq_false_iff_ne.2 (by omega)
    clear ih hq hk hR1 hR2 hR3
    go_enter Try.func82, Try.ntmps82
    go_wp2_with fail
    clear hqne
    have hB0 : Below w.heap.size w (w.alloc (.cells #[] 24)) := by (repeat' (first | (with_reducible exact Below.refl _ _) | (with_reducible assumption) | (with_reducible refine Below.al ?_ _) | (with_reducible refine Below.drew ?_) | (with_reducible refine Below.drN ?_ _) | (with_reducible refine Below.via (by with_reducible assumption) ?_) | (with_reducible refine Below.setc ?_ ?_ _) | (with_reducible exact Nat.le_refl _) | (simp; done) | (simp; omega)))
    have hV0 : RwV (w.alloc (.cells #[] 24)) w.heap.size (some ⟨w.heap.size, 0, none⟩) 0 0 := ⟨[], by simp, World.ownsRow_made w #[] 0 (Nat.le_refl _) (by simp [maxLen]) rfl⟩
    go_loopw [7, 8, 9, 10] (fun v7 v8 _ _ wr => ∃ (i g c : Nat), i ≤ L.length ∧ v8 = .int .i64 i ∧ v7 = .slice (some ⟨g, 0, none⟩) (sumU (topG f L k p) (L.take i)) c ∧ RwV wr w.heap.size (some ⟨g, 0, none⟩) (sumU (topG f L k p) (L.take i)) c ∧ Below w.heap.size w wr) (fun _ v8 _ _ _ => L.length - (intOf v8).toNat)
    case atStart => exact ⟨0, w.heap.size, 0, Nat.zero_le _, rfl, rfl, hV0, hB0⟩
    case round =>
      obtain ⟨i, g, c, hi, rfl, rfl, hV, hB⟩ := hrel
      clear hV0 hB0
      have HV := Lib.hid hV
      have HB := Lib.hid hB
      have hBr := hB.size
      clear hV hB
      by_cases hlt : i < L.length
      · obtain ⟨t, ht⟩ : ∃ t, L[i] = t := ⟨_, rfl⟩
        have ht3 : t ≤ 3 := ht ▸ hL3 _ (List.getElem_mem hlt)
        obtain ⟨l1, x1⟩ := ci_cell (HR1.out.on HB.out) hlt
        rw [ht] at x1
        have hnext := sumU_next (g := topG f L k p) hlt
        rw [ht] at hnext
        have HN := Lib.hid hnext
        have HT := Lib.hid ht
        clear hnext ht
        go_wp2_with (go_at_call 97; refine (spec_hasN_any _ _ p _ t _ HQ.out HQM.out (HR3.out.on HB.out)).mono ?_; rintro e w1 ⟨rfl, rfl⟩)
        obtain ⟨wo, hwo⟩ : ∃ wo : World, wo = wr := ⟨_, rfl⟩
        subst hwo
        clear x1
        go_loopw [9, 10] (fun v9 v10 wx => ∃ j : Nat, j ≤ L.length ∧ v10 = .int .i64 j ∧ v9 = .bool (okTo f L p t j) ∧ Below wo.heap.size wo wx) (fun _ v10 _ => L.length - (intOf v10).toNat)
        case atStart => exact ⟨0, Nat.zero_le _, rfl, by simp [okTo], Below.refl _ _⟩
        case round =>
          obtain ⟨j, hj, rfl, rfl, hb0⟩ := hrel
          have HBo := Lib.hid hb0
          have HBw := Lib.hid (Below.trans HB.out (hb0.mono hBr))
          clear hb0
          by_cases hjl : j < L.length
          · cases hok : okTo f L p t j
            · have HOK := Lib.hid (okTo_false hok)
              clear hok
              go_wp2_with fail
              exact ⟨⟨i + 1, g, c, by omega, by go_num, by rw [HN.out]; unfold topG; rw [HOK.out]; rfl, by rw [HN.out]; unfold topG; rw [HOK.out]; exact HV.out.on HBo.out, HBw.out⟩, by simp [intOf]; omega⟩
            · obtain ⟨u, hu⟩ : ∃ u, L[j] = u := ⟨_, rfl⟩
              have hu3 : u ≤ 3 := hu ▸ hL3 _ (List.getElem_mem hjl)
              have hu4 : (u : Int) < 4 := by omega
              obtain ⟨l1, x1⟩ := ci_cell (HR1.out.on HBw.out) hjl
              obtain ⟨_, x2⟩ := ci_cell (HR1.out.on HBw.out) hlt
              rw [hu] at x1
              rw [HT.out] at x2
              obtain ⟨b', off', e', l2, x3⟩ := mk4_row f (HR2.out.on HBw.out) hu3
              injection e' with e'
              injection e' with e1 e2
              subst e1 e2
              have hnx := okTo_next (f := f) (p := p) (t := t) hjl
              rw [hu, hok, Bool.true_and] at hnx
              have HNX := Lib.hid hnx
              clear hok hnx hu
              cases hf : f u t
              · have HF := Lib.hid hf
                clear hf
                go_wp2_with fail
                ((first | (with_reducible refine wp_region_from (by with_reducible assumption) follows (by kernel_rfl) ?_) | (refine wp_region_aft follows (by kernel_rfl) ?_)); (repeat (go_big_quiet_step ((go_at_call 98; exact aft_same (spec_bit_no (f u) t _ ht3 HF.out))))); refine wpQuiet_nil ?_; intro _ hw'; obtain ⟨⟨w1, hb⟩, rfl⟩ := hw'; (try dsimp only); first | (replace hb := Below.via hb (by with_reducible assumption); (try clear hbc hbf hbz); obtain ⟨hbc, hbf, hbz⟩ := bcell hb) | (obtain ⟨hbc, hbf, hbz⟩ := bcell hb))
                go_wp2_with fail
                exact ⟨⟨j + 1, by omega, by go_num, by rw [HNX.out, HF.out]; rfl, Below.trans HBo.out (hb.mono HBo.out.size)⟩, by simp [intOf]; omega⟩
              · have HF := Lib.hid hf
                clear hf
                go_wp2_with fail
                ((first | (with_reducible refine wp_region_from (by with_reducible assumption) follows (by kernel_rfl) ?_) | (refine wp_region_aft follows (by kernel_rfl) ?_)); (repeat (go_big_quiet_step (first | (go_at_call 98; exact aft_same (spec_bit_yes (f u) t _ ht3 HF.out)) | (go_at_call 97; exact aft_same (spec_hasN_any _ _ p _ u _ HQ.out HQM.out ((HR3.out.on HBw.out).on (After.below _))))))); refine wpQuiet_nil ?_; intro _ hw'; obtain ⟨⟨w1, hb⟩, rfl⟩ := hw'; (try dsimp only); first | (replace hb := Below.via hb (by with_reducible assumption); (try clear hbc hbf hbz); obtain ⟨hbc, hbf, hbz⟩ := bcell hb) | (obtain ⟨hbc, hbf, hbz⟩ := bcell hb))
                go_wp2_with fail
                exact ⟨⟨j + 1, by omega, by go_num, by rw [HNX.out, HF.out]; rfl, Below.trans HBo.out (hb.mono HBo.out.size)⟩, by simp [intOf]; omega⟩
          · have hjj : j = L.length := by omega
            subst hjj
            rw [okTo_end]
            cases hok : okT f L p t
            · have HOK := Lib.hid hok
              clear hok
              go_wp2_with fail
              exact ⟨⟨i + 1, g, c, by omega, by go_num, by rw [HN.out]; unfold topG; rw [HOK.out]; rfl, by rw [HN.out]; unfold topG; rw [HOK.out]; exact HV.out.on HBo.out, HBw.out⟩, by simp [intOf]; omega⟩
            · have HOK := Lib.hid hok
              clear hok
              have HRP := Lib.hid (HR3.out.on HBw.out)
              obtain ⟨l1, x1⟩ := ci_cell (HR1.out.on HBw.out) hlt
              rw [HT.out] at x1
              have hr256 : topN f L k (p ++ [t]) ≤ 256 := by
                have h1 := top_le f hL4 k (p ++ [t])
                have h2 : 4 ^ k ≤ 4 ^ 4 := Nat.pow_le_pow_right (by omega) (by have := HK.out; omega)
                omega
              have hni4 : sumU (topG f L k p) (L.take i) ≤ 4 * 256 := by
                refine Nat.le_trans (sumU_le (M := 256) (fun u => ?_) _) (Nat.mul_le_mul_right _ (by simp; omega))
                unfold topG
                split
                · have h1 := top_le f hL4 k (p ++ [u])
                  have h2 : 4 ^ k ≤ 4 ^ 4 := Nat.pow_le_pow_right (by omega) (by have := HK.out; omega)
                  omega
                · exact Nat.zero_le _
              have HN2 := Lib.hid (show sumU (topG f L k p) (L.take (i + 1)) = sumU (topG f L k p) (L.take i) + topN f L k (p ++ [t]) by rw [HN.out]; unfold topG; rw [HOK.out]; rfl)
              have hVw := HV.out.on HBo.out
              obtain ⟨ni, hni⟩ : ∃ ni, sumU (topG f L k p) (L.take i) = ni := ⟨_, rfl⟩
              obtain ⟨r, hr⟩ : ∃ r, topN f L k (p ++ [t]) = r := ⟨_, rfl⟩
              rw [hni] at hVw hni4 HN2 ⊢
              rw [hr] at hr256 HN2
              obtain ⟨xs, hx1, hx2⟩ := hVw
              have HX2 := Lib.hid hx2
              have HXL := Lib.hid hx1
              have HR := Lib.hid hr
              have HNI := Lib.hid hni
              have hq4 : q ≤ 4 := by have := HQ.out; have := HK.out; omega
              have HQL := Lib.hid (show (cellsI (ci p)).length = q * 1 by simp [cellsI, ci_len, HQ.out])
              have HIR := Lib.hid (show ∀ (g6 c6 : Nat) (w6 : World), RdI w6 w6.heap.size (some ⟨lb, lo, none⟩) (ci L) → RdI w6 w6.heap.size (some ⟨gb, go, none⟩) (mk4 f) → RdI w6 w6.heap.size (some ⟨g6, 0, none⟩) (ci (p ++ [t])) →
                  Calls Try.prog 82 #[.slice (some ⟨lb, lo, none⟩) L.length cL, .slice (some ⟨gb, go, none⟩) 4 cG, .slice (some ⟨g6, 0, none⟩) (q + 1) c6] w6 fun e w' => (∃ g c, e = .returned (.slice (some ⟨g, 0, none⟩) r c) ∧ RwV w' w6.heap.size (some ⟨g, 0, none⟩) r c) ∧ Below w6.heap.size w6 w' from fun g6 c6 w6 h1 h2 h3 => by
                have h := HIH.out (p ++ [t]) (q + 1) lb lo cL gb go cG g6 0 c6 w6 (by have := HQ.out; simp; omega) (by have := HK.out; simp; omega) h1 h2 h3
                rw [hr] at h
                exact h)
              have HRL := Lib.hid (HR1.out.on HBw.out)
              have HRG := Lib.hid (HR2.out.on HBw.out)
              clear hx1 hx2 hr hni
              have hwr : w.heap.size ≤ wr.heap.size := HBw.out.size
              go_upto_region 13 with fail
              go_region_law (first
                | (refine step_append_own rfl (.tmp 68) (.tmp 69) 24 rfl wr.heap.size 3 i0 _ 8 Try.underlying24 hi0 hz0 hz1 hz2 rfl _ 0 0 [] rfl (own0 (by first | exact heap1 wr _ | exact heap2a wr _ _ | exact heap2b wr _ _) (by first | (simp; done) | (simp; omega))) ⟨eb, ho, none⟩ q cH (cellsI (ci p)) rfl HQL.out (rd_cellsI (HRP.out.below (by (repeat' (first | (with_reducible exact Below.refl _ _) | (with_reducible assumption) | (with_reducible refine Below.al ?_ _) | (with_reducible refine Below.drew ?_) | (with_reducible refine Below.drN ?_ _) | (with_reducible refine Below.via (by with_reducible assumption) ?_) | (with_reducible refine Below.setc ?_ ?_ _) | (with_reducible exact Nat.le_refl _) | (simp; done) | (simp; omega)))) (Nat.le_refl _))) (cellsI_one _) (by unfold maxLen; omega) (by omega) (by first | (simp; done) | (simp; omega)) wr (by (repeat' (first | (with_reducible exact Below.refl _ _) | (with_reducible assumption) | (with_reducible refine Below.al ?_ _) | (with_reducible refine Below.drew ?_) | (with_reducible refine Below.drN ?_ _) | (with_reducible refine Below.via (by with_reducible assumption) ?_) | (with_reducible refine Below.setc ?_ ?_ _) | (with_reducible exact Nat.le_refl _) | (simp; done) | (simp; omega)))) ?_; intro g5 c5 w5 hO5 hg5 hB5; rw [Nat.zero_add, List.nil_append] at hO5; have x5 : w5.cell? ⟨lb, lo + i, none⟩ = some (.int .i64 (t : Int)) := (hB5.cell (p := ⟨lb, lo + i, none⟩) l1).trans x1; have l5 : lb < w5.heap.size := Nat.lt_of_lt_of_le l1 hB5.size)
                | (refine step_append_own rfl (.tmp 70) (.tmp 75) 24 rfl wr.heap.size 3 i0 _ 8 Try.underlying24 hi0 hz0 hz1 hz2 rfl g5 c5 q (cellsI (ci p)) rfl (by first | exact hO5 | exact row_kept hO5 (fun k hk => Below.heap_alloc _ _ k hk)) ⟨_, 0, none⟩ 1 1 [.int .i64 (t : Int)] rfl rfl (news1 (E := 3) (by first | exact heap1 w5 _ | exact (hg5.block _ (by first | (simp; done) | (simp; omega)) (by simp)).trans (heap2a wr _ _) | exact (hg5.block _ (by first | (simp; done) | (simp; omega)) (by simp)).trans (heap2b wr _ _))) (by simp [Value.oneCell']) (by unfold maxLen; omega) (by omega) (by have := hB5.size; simp; omega) wr (by (repeat' (first | (with_reducible exact Below.refl _ _) | (with_reducible assumption) | (with_reducible refine Below.al ?_ _) | (with_reducible refine Below.drew ?_) | (with_reducible refine Below.drN ?_ _) | (with_reducible refine Below.via (by with_reducible assumption) ?_) | (with_reducible refine Below.setc ?_ ?_ _) | (with_reducible exact Nat.le_refl _) | (simp; done) | (simp; omega)))) ?_; intro g6 c6 w6 hO6 hg6 hB6)
                | (go_simp; go_at_call 82; refine (HIR.out g6 c6 w6 (HRL.out.on hB6) (HRG.out.on hB6) (head_rd HQ.out hO6)).mono ?_; rintro e w7 ⟨⟨g7, c7, rfl, ⟨ys, hy1, hy2⟩⟩, hb7⟩; have hyc := row_cells hy2; have hyl := hy2.1; have hB7 : Below wr.heap.size wr w7 := hB6.trans (hb7.mono hB6.size); have hX7 := row_kept HX2.out hB7.block; have hBW7 : Below w.heap.size w w7 := HBw.out.trans (hB7.mono hwr); dsimp only)
                | (refine step_append_own rfl (.tmp 65) (.tmp 77) 37 rfl w.heap.size 24 n0 _ 24 Try.underlying37 hn0 hm0 hm1 hm2 rfl g c ni xs rfl hX7 ⟨g7, 0, none⟩ r c7 ys rfl hyl hyc hy1 (by unfold maxLen; omega) (by omega) hBW7.size w hBW7 ?_; intro g8 c8 w8 hO8 hg8 hB8))
              all_goals go_wp2_with fail
              all_goals exact ⟨⟨i + 1, g8, c8, by omega, by go_num, by rw [HN2.out], by rw [HN2.out]; exact ⟨xs ++ ys, fun u hu => by rcases List.mem_append.1 hu with h | h; exact HXL.out u h; exact hy1 u h, hO8⟩, hB8⟩, by simp [intOf]; omega⟩
      · have hil : i = L.length := by omega
        have HIL := Lib.hid hil
        clear hil
        go_wp2_with fail
        go_ret
        have hs : sumU (topG f L k p) (L.take i) = topN f L (k + 1) p := by rw [HIL.out, List.take_length, topN_succ]
        rw [← hs]
        exact ⟨⟨g, c, rfl, HV.out⟩, HB.out⟩
end Go.Proofs.Ytaflkbemecjcpaa
