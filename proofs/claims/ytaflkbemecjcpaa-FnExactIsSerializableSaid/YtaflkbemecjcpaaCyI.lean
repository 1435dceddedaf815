/- The first shortest circle: the program's variables. -/
import Derived.StillTailTactics
import Derived.Laws.EntriesVeiled
import Derived.Test.YtaflkbemecjcpaaCyS
import Derived.Test.YtaflkbemecjcpaaGrI
namespace Go.Proofs.Ytaflkbemecjcpaa
set_option linter.unusedSimpArgs false
set_option linter.unusedVariables false
open Go.RowKit

/-- append of one number: where the new slice lies. -/
theorem wpList_app_ia {P : Program} {ops : Array Oper} {rest : List Oper} {o : Oper} {a : Act} {Q : Exit → Act → World → Prop} (W : World) (T E : TypeId) (i : TypeInfo) (hgd : o.guard = none) (s x : Operand)
    (ho : o.op = .call { callee := .builtin .append, args := #[s, x], argTypes := #[T, T] })
    (ht : P.underlying T = some (.slice E)) (hi : P.info? E = some i) (hz : i.zero = some (.int .i64 0)) (hsize : i.size = 1) (hby : i.bytes = 8)
    (base : Nat) (v : Value) (l : List Int) (hs : a.eval s = v) (hown : AppI W base E v l)
    (p : Int) (g : Nat) (hx : a.eval x = .slice (some ⟨g, 0, none⟩) 1 1) (hgW : g = W.heap.size) (hlen : l.length ≤ 4194304) (hbase : base ≤ W.heap.size)
    (h : ∀ A' c' w', AppI w' base E (.slice A' (l.length + 1) c') (l ++ [p]) → (W.alloc (.cells #[.int .i64 p] E)).grownBy w' v.ownBlock →
      ((Value.slice A' (l.length + 1) c').ownBlock = v.ownBlock ∨ ∃ k, (Value.slice A' (l.length + 1) c').ownBlock = some k ∧ W.heap.size ≤ k) → wpList P ops Q rest (a.put o.dst (.slice A' (l.length + 1) c')) w') :
    wpList P ops Q (o :: rest) a (W.alloc (.cells #[.int .i64 p] E)) := by
  subst hgW
  refine wpList_append_own_at _ hgd s x T ho base E i _ 1 8 ht hi hz hsize hby rfl (by decide) v l.length (cellsI l) hs (hown.alloc _) ⟨W.heap.size, 0, none⟩ 1 1 (cellsI [p]) hx rfl ?_ (cellsI_one _) ?_ ?_ ?_ ?_
  · intro j u hj
    rw [addr_add, Nat.zero_add, World.cell?_alloc_new]
    simpa [cellsI] using hj
  · unfold maxLen; omega
  · omega
  · simp; omega
  · intro v' w' h1 h2 _ h4
    obtain ⟨A', c', rfl, _⟩ := row_form h1
    refine h A' c' w' (by unfold AppI; rw [List.length_append]; simpa [cellsI] using h1) h2 ?_
    rcases h4 with h4 | h4
    · exact .inl h4
    · exact .inr ⟨_, h4, by simp⟩

/-- How many of the four are not on a path. -/
def left (p : List Nat) : Nat := (if hasN p 0 then 0 else 1) + (if hasN p 1 then 0 else 1) + (if hasN p 2 then 0 else 1) + (if hasN p 3 then 0 else 1)
theorem hasN_app (p : List Nat) (t u : Nat) : hasN (p ++ [t]) u = (hasN p u || Nat.beq t u) := by
  rw [Bool.eq_iff_iff, hasN_iff, List.mem_append, Bool.or_eq_true, hasN_iff, Nat.beq_eq]
  simp only [List.mem_singleton]
  exact ⟨fun h => h.imp_right Eq.symm, fun h => h.imp_right Eq.symm⟩
theorem left_app {p : List Nat} {t : Nat} (ht : t < 4) (h : hasN p t = false) : left (p ++ [t]) + 1 = left p := by
  unfold left
  simp only [hasN_app]
  rcases (show t = 0 ∨ t = 1 ∨ t = 2 ∨ t = 3 by omega) with rfl | rfl | rfl | rfl <;> rw [h] <;> simp <;> omega
theorem left_pos {p : List Nat} {t : Nat} (ht : t < 4) (h : hasN p t = false) : 1 ≤ left p := by have := left_app ht h; omega
def dfsG (f : Nat → Nat → Bool) (k : Nat) (q : List Nat) (t : Nat) : List Nat → Nat → List Nat := fun b u => if f t u && (Nat.blt (headN q) u && !(hasN q u)) then dfs f k q b u else b
def dfsB (f : Nat → Nat → Bool) (q : List Nat) (t : Nat) (best : List Nat) : List Nat := if f t (headN q) && better best q then q else best
theorem dfs_succ (f : Nat → Nat → Bool) (k : Nat) (p best : List Nat) (t : Nat) : dfs f (k + 1) p best t = loopU (dfsG f k (p ++ [t]) t) (List.range 4) (dfsB f (p ++ [t]) t best) := rfl

abbrev cloV (bp bg bb bf : Nat) : Value := .func (Fn.func 86) #[] #[.pointer (some ⟨bp, 0, none⟩), .pointer (some ⟨bg, 0, none⟩), .pointer (some ⟨bb, 0, none⟩), .pointer (some ⟨bf, 0, none⟩)]
/-- The four variables that the closure holds: the path in block bp, the graph in bg, the best in bb, itself in bf. -/
structure CirAt (w : World) (B bp bg bb bf : Nat) (A : Option Addr) (c : Nat) (f : Nat → Nat → Bool) (Ap : Option Addr) (np cp : Nat) (p : List Nat) (vb : Value) (best : List Nat) : Prop where
  xp : w.heap[bp]? = some (.cells #[.slice Ap np cp] 24 (0, 0))
  xg : w.heap[bg]? = some (.cells #[.slice A 4 c] 24 (0, 0))
  xb : w.heap[bb]? = some (.cells #[vb] 24 (0, 0))
  xf : w.heap[bf]? = some (.cells #[cloV bp bg bb bf] 84 (0, 0))
  len : np = p.length
  fp : AppI w B 3 (.slice Ap np cp) (ci p)
  fb : OwnI w B 3 vb (ci best)
  nil : best = [] → vb = .slice none 0 0
  gr : RdI w B A (mk4 f)
  ne : ∀ k, (Value.slice Ap np cp).ownBlock = some k → vb.ownBlock ≠ some k
  op : (Value.slice Ap np cp).ownBlock ≠ some bp ∧ (Value.slice Ap np cp).ownBlock ≠ some bg ∧ (Value.slice Ap np cp).ownBlock ≠ some bb ∧ (Value.slice Ap np cp).ownBlock ≠ some bf
  ob : vb.ownBlock ≠ some bp ∧ vb.ownBlock ≠ some bg ∧ vb.ownBlock ≠ some bb ∧ vb.ownBlock ≠ some bf
  ge : B ≤ bp ∧ B ≤ bg ∧ B ≤ bb ∧ B ≤ bf
  d : bp ≠ bg ∧ bp ≠ bb ∧ bp ≠ bf ∧ bg ≠ bb ∧ bg ≠ bf ∧ bb ≠ bf
section
variable {w w' : World} {B bp bg bb bf : Nat} {A : Option Addr} {c : Nat} {f : Nat → Nat → Bool} {Ap : Option Addr} {np cp : Nat} {p : List Nat} {vb : Value} {best : List Nat}
theorem CirAt.on (h : CirAt w B bp bg bb bf A c f Ap np cp p vb best) (hb : Below w.heap.size w w') (hB : B ≤ w.heap.size) : CirAt w' B bp bg bb bf A c f Ap np cp p vb best :=
  ⟨(hb.block _ (lt_of_block h.xp)).trans h.xp, (hb.block _ (lt_of_block h.xg)).trans h.xg, (hb.block _ (lt_of_block h.xb)).trans h.xb, (hb.block _ (lt_of_block h.xf)).trans h.xf, h.len, h.fp.on hb, h.fb.on hb, h.nil, h.gr.below hb hB, h.ne, h.op, h.ob, h.ge, h.d⟩
theorem own_none_ne {v : Value} {o : Option Nat} (h : ∀ k, v.ownBlock = some k → o ≠ some k) : v.ownBlock = none ∨ v.ownBlock ≠ o := by
  cases e : v.ownBlock with
  | none => exact .inl rfl
  | some k => exact .inr (fun e' => h k e e'.symm)
theorem set_gr (w : World) (b n : Nat) (v : Value) : w.grownBy (w.setCell ⟨b, n, none⟩ v) (some b) := ⟨rfl, rfl, rfl, by simp, fun k _ hk => Below.heap_setCell _ _ _ k (fun e => hk (by rw [e]))⟩
/-- The path's variable is stored anew. -/
theorem CirAt.setP (h : CirAt w B bp bg bb bf A c f Ap np cp p vb best) {A' : Option Addr} {n' c' : Nat} {p' : List Nat} {w1 : World} (kg : w1.heap[bg]? = w.heap[bg]?) (kb : w1.heap[bb]? = w.heap[bb]?) (kf : w1.heap[bf]? = w.heap[bf]?) (xp : ∃ u, w1.heap[bp]? = some (.cells #[u] 24 (0, 0)))
    (hb : OwnI w1 B 3 vb (ci best)) (hgr : RdI w1 B A (mk4 f)) (hl : n' = p'.length) (hp : AppI w1 B 3 (.slice A' n' c') (ci p'))
    (hne : ∀ k, (Value.slice A' n' c').ownBlock = some k → vb.ownBlock ≠ some k) (ho : ∀ b, b = bp ∨ b = bg ∨ b = bb ∨ b = bf → (Value.slice A' n' c').ownBlock ≠ some b) :
    CirAt (w1.setCell ⟨bp, 0, none⟩ (.slice A' n' c')) B bp bg bb bf A c f A' n' c' p' vb best := by
  obtain ⟨u, xu⟩ := xp
  obtain ⟨d1, d2, d3, d4, d5, d6⟩ := h.d
  have gs := set_gr w1 bp 0 (.slice A' n' c')
  refine ⟨?_, ?_, ?_, ?_, hl, World.ownsRow.kept hp gs (.inr (ho bp (.inl rfl))), OwnG.far hb gs (.inr h.ob.1), h.nil, ?_, hne, ⟨ho bp (by simp), ho bg (by simp), ho bb (by simp), ho bf (by simp)⟩, h.ob, h.ge, h.d⟩
  · rw [heap_setCell_same w1 bp 0 _ _ _ xu]; rfl
  · exact (Below.heap_setCell w1 _ _ bg (fun e => d1 e.symm)).trans (kg.trans h.xg)
  · exact (Below.heap_setCell w1 _ _ bb (fun e => d2 e.symm)).trans (kb.trans h.xb)
  · exact (Below.heap_setCell w1 _ _ bf (fun e => d3 e.symm)).trans (kf.trans h.xf)
  · exact hgr.below ((Below.refl B w1).setCell (p := ⟨bp, 0, none⟩) h.ge.1 _) (Nat.le_refl _)
/-- One more on the path. -/
theorem CirAt.push (h : CirAt w B bp bg bb bf A c f Ap np cp p vb best) (hB : B ≤ w.heap.size) {x : Obj} {t : Nat} {A' : Option Addr} {c' : Nat} (hO : AppI w' B 3 (.slice A' (np + 1) c') (ci p ++ [(t : Int)])) (hg : (w.alloc x).grownBy w' (Value.slice Ap np cp).ownBlock)
    (hv : (Value.slice A' (np + 1) c').ownBlock = (Value.slice Ap np cp).ownBlock ∨ ∃ k, (Value.slice A' (np + 1) c').ownBlock = some k ∧ w.heap.size ≤ k) :
    CirAt (w'.setCell ⟨bp, 0, none⟩ (.slice A' (np + 1) c')) B bp bg bb bf A c f A' (np + 1) c' (p ++ [t]) vb best ∧ Below B w (w'.setCell ⟨bp, 0, none⟩ (.slice A' (np + 1) c')) ∧ w'.heap[bp]? = w.heap[bp]? := by
  have hz := hg.size
  rw [World.size_alloc] at hz
  have k1 : ∀ b, b < w.heap.size → (Value.slice Ap np cp).ownBlock ≠ some b → w'.heap[b]? = w.heap[b]? := fun b hb hne => (hg.block b (by simp; omega) (fun e => hne e.symm)).trans (Below.heap_alloc _ _ _ hb)
  have hn : ∀ b, b < w.heap.size → (Value.slice Ap np cp).ownBlock ≠ some b → (Value.slice A' (np + 1) c').ownBlock ≠ some b := fun b hb hne => by
    rcases hv with e | ⟨k, e, hk⟩
    · rw [e]; exact hne
    · rw [e]; intro e'; cases e'; omega
  obtain ⟨o1, o2, o3, o4⟩ := h.op
  have lp := lt_of_block h.xp
  have lg := lt_of_block h.xg
  have lb := lt_of_block h.xb
  have lf := lt_of_block h.xf
  have hbel : Below B w w' := ((Below.refl _ _).alloc hB _).grown hg (by simp; omega) (fun k hk => (h.fp.lt k hk).1)
  have hvb : ∀ k, vb.ownBlock = some k → k < w.heap.size := fun k hk => (h.fb.own_lt k hk).2
  have hbest : OwnI w' B 3 vb (ci best) := OwnG.far (h.fb.alloc x) hg (own_none_ne (fun k e e' => h.ne k e' e))
  refine ⟨h.setP (k1 bg lg o2) (k1 bb lb o3) (k1 bf lf o4) ⟨_, (k1 bp lp o1).trans h.xp⟩ hbest (h.gr.below hbel (Nat.le_refl _)) (by rw [h.len]; simp) (by rw [ci_app]; exact hO) (fun k e1 e2 => ?_) (fun b hb => ?_), ?_, k1 bp lp o1⟩
  · exact hn k (hvb k e2) (fun e => h.ne k e e2) e1
  · rcases hb with rfl | rfl | rfl | rfl
    · exact hn _ lp o1
    · exact hn _ lg o2
    · exact hn _ lb o3
    · exact hn _ lf o4
  · exact hbel.setCell (p := ⟨bp, 0, none⟩) h.ge.1 _
theorem row_cut {w : World} {base : Nat} {E : TypeId} {A : Option Addr} {n c : Nat} {xs : List Value} {x : Value} (h : w.ownsRow base E 1 (.slice A (n + 1) c) (n + 1) (xs ++ [x])) : w.ownsRow base E 1 (.slice A n c) n xs := by
  have hl := h.1
  simp at hl
  refine ⟨by omega, ?_⟩
  rcases h.2 with ⟨_, h'⟩ | ⟨g, cap, cur, hv, hb, hg, h1, h2, h3, h4⟩
  · omega
  · injection hv with e1 e2 e3
    subst e1 e3
    refine .inr ⟨g, c, cur, rfl, hb, hg, by omega, h2, h3, ?_⟩
    have h5 : (xs ++ [x]).take n = xs := by rw [List.take_append_of_le_length (by omega), List.take_of_length_le (by omega)]
    have h6 : (cur.toList.take ((n + 1) * 1)).take n = (xs ++ [x]).take n := by rw [h4]
    rw [h5, List.take_take, show min n ((n + 1) * 1) = n * 1 by omega] at h6
    exact h6
theorem own_len (A : Option Addr) (n c n' c' : Nat) : (Value.slice A n c).ownBlock = (Value.slice A n' c').ownBlock := by cases A <;> rfl
/-- The last one leaves the path. -/
theorem CirAt.pop {t : Nat} (h : CirAt w B bp bg bb bf A c f Ap (np + 1) cp (p ++ [t]) vb best) :
    CirAt (w.setCell ⟨bp, 0, none⟩ (.slice Ap np cp)) B bp bg bb bf A c f Ap np cp p vb best ∧ Below B w (w.setCell ⟨bp, 0, none⟩ (.slice Ap np cp)) := by
  have hO : AppI w B 3 (.slice Ap np cp) (ci p) := by
    have hp := h.fp
    have hl := h.len
    unfold AppI at hp ⊢
    rw [ci_app] at hp
    simp only [cellsI, List.map_append, List.map_cons, List.map_nil, List.length_append, List.length_cons, List.length_nil, ci_len] at hp hl ⊢
    have e : np = p.length := by omega
    subst e
    exact row_cut hp
  refine ⟨h.setP rfl rfl rfl ⟨_, h.xp⟩ h.fb h.gr (by have := h.len; simp at this; omega) hO (fun k e => h.ne k ((own_len _ _ _ _ _).trans e)) (fun b hb e => ?_), (Below.refl B w).setCell (p := ⟨bp, 0, none⟩) h.ge.1 _⟩
  obtain ⟨o1, o2, o3, o4⟩ := h.op
  have e' := (own_len Ap (np + 1) cp np cp).trans e
  rcases hb with rfl | rfl | rfl | rfl
  · exact o1 e'
  · exact o2 e'
  · exact o3 e'
  · exact o4 e'
/-- A new best. -/
theorem CirAt.keep (h : CirAt w B bp bg bb bf A c f Ap np cp p vb best) {v : Value} {q : List Nat} (hB : B ≤ w.heap.size) (hb : Below w.heap.size w w') (hO : OwnI w' w.heap.size 3 v (ci q)) (hq : q ≠ []) :
    CirAt (w'.setCell ⟨bb, 0, none⟩ v) B bp bg bb bf A c f Ap np cp p v q ∧ Below B w (w'.setCell ⟨bb, 0, none⟩ v) := by
  have h' := h.on hb hB
  obtain ⟨d1, d2, d3, d4, d5, d6⟩ := h.d
  have gs := set_gr w' bb 0 v
  have hv : ∀ k, v.ownBlock = some k → w.heap.size ≤ k := fun k hk => (hO.own_lt k hk).1
  have lp := lt_of_block h.xp
  have lg := lt_of_block h.xg
  have lb := lt_of_block h.xb
  have lf := lt_of_block h.xf
  have hBw : Below B w (w'.setCell ⟨bb, 0, none⟩ v) := (hb.mono hB).setCell (p := ⟨bb, 0, none⟩) h.ge.2.2.1 _
  refine ⟨⟨?_, ?_, ?_, ?_, h.len, World.ownsRow.kept h'.fp gs (.inr h.op.2.2.1), OwnG.far (hO.low hB) gs (.inr (fun e => by have := hv _ e; omega)), fun e => absurd e hq, h.gr.below hBw (Nat.le_refl _), fun k e1 e2 => ?_, h.op, ⟨fun e => by have := hv _ e; omega, fun e => by have := hv _ e; omega, fun e => by have := hv _ e; omega, fun e => by have := hv _ e; omega⟩, h.ge, h.d⟩, hBw⟩
  · exact (Below.heap_setCell w' _ _ bp d2).trans h'.xp
  · exact (Below.heap_setCell w' _ _ bg d4).trans h'.xg
  · rw [heap_setCell_same w' bb 0 _ _ _ h'.xb]; rfl
  · exact (Below.heap_setCell w' _ _ bf (fun e => d6 e.symm)).trans h'.xf
  · have a := hv k e2
    have b := (h.fp.lt k e1).2
    omega
end
theorem msk_and (g : Nat → Bool) (j : Nat) (hj : j ≤ 3) : bits BinOp.and IntKind.i64 (msk g / 2 ^ j) 1 = cond (g j) 1 0 := by
  unfold msk
  rcases (show j = 0 ∨ j = 1 ∨ j = 2 ∨ j = 3 by omega) with rfl | rfl | rfl | rfl <;> cases g 0 <;> cases g 1 <;> cases g 2 <;> cases g 3 <;> decide
theorem mk4_cell (f : Nat → Nat → Bool) {w : World} {B b off : Nat} (h : RdI w B (some ⟨b, off, none⟩) (mk4 f)) {a : Nat} (ha : a ≤ 3) : w.cell? ⟨b, off + a, none⟩ = some (.int .i64 (msk (f a))) := by
  obtain ⟨b', off', e, _, hc⟩ := mk4_row f h ha
  injection e with e
  injection e with e1 e2
  rw [e1, e2]
  exact hc
/-- What is read of them. -/
theorem CirAt.facts {w : World} {B bp bg bb bf : Nat} {A : Option Addr} {c : Nat} {f : Nat → Nat → Bool} {Ap : Option Addr} {np cp : Nat} {p : List Nat} {vb : Value} {best : List Nat} (h : CirAt w B bp bg bb bf A c f Ap np cp p vb best) (hp : 0 < p.length) :
    ∃ g, Ap = some ⟨g, 0, none⟩ ∧ w.cell? ⟨g, 0, none⟩ = some (.int .i64 (headN p : Nat)) ∧ w.cell? ⟨bp, 0, none⟩ = some (.slice Ap np cp) ∧ w.cell? ⟨bg, 0, none⟩ = some (.slice A 4 c) ∧ w.cell? ⟨bb, 0, none⟩ = some vb ∧ w.cell? ⟨bf, 0, none⟩ = some (cloV bp bg bb bf) ∧ w.frozen? ⟨bb, 0, none⟩ = false ∧ w.frozen? ⟨bp, 0, none⟩ = false ∧ np ≤ cp := by
  have e := h.len
  have ho := h.fp.own
  obtain ⟨g, cap, e1, _, _, hc, _⟩ := OwnI.at_ (k := 0) (show OwnI w B 3 (.slice Ap (ci p).length cp) (ci p) by rw [ci_len, ← e]; exact ho) (by rw [ci_len]; exact hp)
  injection e1 with eA _ _
  rw [ci_at, headN_at hp] at hc
  exact ⟨g, eA, hc, cell_of_row w bp 0 _ _ (0, 0) h.xp, cell_of_row w bg 0 _ _ (0, 0) h.xg, cell_of_row w bb 0 _ _ (0, 0) h.xb, cell_of_row w bf 0 _ _ (0, 0) h.xf, frozen_of_row w bb 0 _ _ h.xb, frozen_of_row w bp 0 _ _ h.xp, h.fp.cap.1⟩
set_option maxHeartbeats 400000 in
theorem impl_circle11_any (u : FrameMode) (bp : Nat) (A1 : Option Addr) (n c1 : Nat) (w : World) (hcell : w.cell? ⟨bp, 0, none⟩ = some (.slice A1 (n + 1) c1)) (hfz : w.frozen? ⟨bp, 0, none⟩ = false) (hn : n + 1 ≤ c1) (hm : n + 1 ≤ maxLen) :
    CallsD Try.prog 87 #[.pointer (some ⟨bp, 0, none⟩)] u w fun e u' w' => u' = u ∧ ((∃ v, e = .returned v) ∧ w' = w.setCell ⟨bp, 0, none⟩ (.slice A1 n c1)) := by
  unfold maxLen at hm
  go_enter_d Try.func87, Try.ntmps87
  go_wp2
  go_end0
  exact ⟨⟨_, rfl⟩, rfl⟩
end Go.Proofs.Ytaflkbemecjcpaa
