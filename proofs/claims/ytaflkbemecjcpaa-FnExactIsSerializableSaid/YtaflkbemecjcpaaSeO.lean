/- IsSerializable: the orders that pass: the caller of the iterator. -/
import Derived.Scope
import Derived.Test.YtaflkbemecjcpaaSeK
import Derived.Test.YtaflkbemecjcpaaCyK
namespace Go.Proofs.Ytaflkbemecjcpaa
set_option linter.unusedSimpArgs false
set_option linter.unusedVariables false
open Go.RowKit Go.Shelf
attribute [local go_sem] Oper.semAt_some
def m4 (a b c d : Bool) : Int := cond a 1 0 + cond b 2 0 + cond c 4 0 + cond d 8 0
theorem m4_meet : ∀ a b c d a' b' c' d' : Bool, bits BinOp.and IntKind.i64 (m4 a b c d) (m4 a' b' c' d') = m4 (a && a') (b && b') (c && c') (d && d') := by decide
theorem msk_meet (g h : Nat → Bool) : bits BinOp.and IntKind.i64 (msk g) (msk h) = msk fun b => g b && h b := m4_meet (g 0) (g 1) (g 2) (g 3) (h 0) (h 1) (h 2) (h 3)
theorem msk_zero (g : Nat → Bool) : (msk g == 0) = !(g 0 || g 1 || g 2 || g 3) := by
  unfold msk
  cases g 0 <;> cases g 1 <;> cases g 2 <;> cases g 3 <;> decide
theorem any_four {p : List Nat} (hp : ∀ u ∈ p, u ≤ 3) (g : Nat → Bool) : p.any g = ((g 0 && hasN p 0) || (g 1 && hasN p 1) || (g 2 && hasN p 2) || (g 3 && hasN p 3)) := by
  rw [Bool.eq_iff_iff, List.any_eq_true]
  simp only [Bool.or_eq_true, Bool.and_eq_true, hasN_iff]
  constructor
  · rintro ⟨u, hu, hg⟩
    have := hp u hu
    rcases (show u = 0 ∨ u = 1 ∨ u = 2 ∨ u = 3 by omega) with rfl | rfl | rfl | rfl
    · exact .inl (.inl (.inl ⟨hg, hu⟩))
    · exact .inl (.inl (.inr ⟨hg, hu⟩))
    · exact .inl (.inr ⟨hg, hu⟩)
    · exact .inr ⟨hg, hu⟩
  · rintro (((⟨h, m⟩ | ⟨h, m⟩) | ⟨h, m⟩) | ⟨h, m⟩)
    · exact ⟨0, m, h⟩
    · exact ⟨1, m, h⟩
    · exact ⟨2, m, h⟩
    · exact ⟨3, m, h⟩
theorem any_msk {p : List Nat} (hp : ∀ u ∈ p, u ≤ 3) (g : Nat → Bool) : (bits BinOp.and IntKind.i64 (msk g) (msk (hasN p)) == 0) = !(p.any g) := by
  rw [msk_meet, msk_zero, any_four hp g]
/-- append at a step of a region that draws, in a fence, onto a slice of the call's own. -/
theorem step_appendIn_own {F : Fence} {nF : Nat} {P : Program} {ops : Array Oper} {o : Oper} {a : Act} {w : World} {K : Act → World → Prop} {Q : Exit → Act → World → Prop} {X : Prop}
    (hg : o.guard = none) (s x : Operand) (t : TypeId) (hop : o.op = Op.call { callee := Callee.builtin Builtin.append, args := #[s, x], argTypes := #[t, t] })
    (base : Nat) (e : TypeId) (i : TypeInfo) (z : Value) (bytes : Nat) (ht : P.underlying t = some (.slice e)) (hi : P.info? e = some i) (hz : i.zero = some z) (hsize : i.size = 1) (hby : i.bytes = bytes) (hzs : z.cells.size = 1)
    (g0 c0 n : Nat) (xs : List Value) (hs : a.eval s = .slice (some ⟨g0, 0, none⟩) n c0) (hown : w.ownsRow base e 1 (.slice (some ⟨g0, 0, none⟩) n c0) n xs)
    (ad : Addr) (m c : Nat) (news : List Value) (hx : a.eval x = .slice (some ad) m c) (hl : news.length = m * 1) (hnews : ∀ j u, news[j]? = some u → w.cell? (ad.add j) = some u) (h1 : ∀ u ∈ news, u.oneCell' = true)
    (h63 : n + m ≤ maxLen) (hbytes : (n + m) * bytes ≤ 140737488355328) (hbase : base ≤ w.heap.size) (w0 : World) (hbel : Below base w0 w)
    (h : ∀ g' c' w', w'.ownsRow base e 1 (.slice (some ⟨g', 0, none⟩) (n + m) c') (n + m) (xs ++ news) → w.grownBy w' (some g0) → (g' = g0 ∨ g' = w.heap.size) → Below base w0 w' → K (a.put o.dst (.slice (some ⟨g', 0, none⟩) (n + m) c')) w') :
    if Region.wanted o (yielded ops a.tmps) = true then Oper.wpIn F nF P o a w K Q else X := by
  have hw : Region.wanted o (yielded ops a.tmps) = true := by simp [Region.wanted, hg]
  rw [if_pos hw]
  obtain ⟨v', w', hr, h2, h3, _, h5⟩ := run_append_own_at (P := P) w base t o.type e i z 1 bytes ht hi hz hsize hby hzs (by decide) _ n xs hown ad m c news hl hnews h1 h63 hbytes hbase
  have hf : ∃ g' c', v' = .slice (some ⟨g', 0, none⟩) (n + m) c' := by
    rcases h2.2 with ⟨rfl, _⟩ | ⟨g', cap, cur, e', _⟩
    · rcases h5 with h5 | h5 <;> simp [Value.ownBlock] at h5
    · exact ⟨g', cap, e'⟩
  obtain ⟨g', c', rfl⟩ := hf
  have h6 : g' = g0 ∨ g' = w.heap.size := by
    rcases h5 with h5 | h5
    · left; simpa [Value.ownBlock] using h5
    · right; simpa [Value.ownBlock] using h5
  unfold Oper.wpIn
  refine ⟨by simp [Oper.about, hop, resolve, Target.leads, Sem.run_pure], ?_⟩
  rw [Oper.semAt_plain F _ _ (by rw [hop]; intro c hc'; cases hc')]
  simp [execOp, hop, resolve, invoke, builtin, hs, hx, hr, Result.andThen]
  exact h g' c' w' h2 h3 h6 (hbel.grown h3 hbase (fun k hk => (hown.lt k hk).1))
/-- A range over a function whose body never leaves: what is left to show. -/
theorem rangeFunc_se {P : Program} {g : Operand} {ps : Array Tmp} {assign body : Code} {Q : Exit → Act → World → Prop} {a : Act} {w : World} {gf : Nat} {lb : Array Value}
    (hg : a.eval g = .func (.func gf) #[] lb) (eg : ∀ args w, (callFunc gf args).run P w = .ok (.enter gf args) w) (R : World → Prop)
    (h : ∀ rec : FuncId → LoopState → Option Code → Loop, (∀ fn st pe, rec fn st pe = { state := st, pending := pe, fn, tmps := a.tmps, params := ps, assign, body, defers := w.heap.size }) → ∀ fn,
      CallsIn Fence.wide 0 P gf (#[.func (.yield (w.heap.size + 1)) #[] #[]] ++ lb) ((w.alloc (.deferred (some []))).alloc (.loop (rec fn .ready none))) fun e W' => (∃ v, e = .returned v) ∧ W'.heap[w.heap.size + 1]? = some (.loop (rec fn .ready none)) ∧ W'.heap[w.heap.size]? = some (.deferred (some [])) ∧ R W')
    (hdone : ∀ W' o, R W' → W'.heap[w.heap.size]? = some (.deferred (some [])) → w.heap.size + 1 < W'.heap.size → Q .normal { a with defers := { target := .collected w.heap.size, args := #[] } :: a.defers } (W'.putObj (w.heap.size + 1) o)) :
    (Code.rangeFunc g ps assign body).wpIn Fence.wide 0 P Q a w := by
  refine wpIn_rangeFunc ?_
  intro fn _
  obtain ⟨r0, hr0⟩ : ∃ r0 : Loop, r0 = { state := .ready, pending := none, fn, tmps := a.tmps, params := ps, assign, body, defers := w.heap.size } := ⟨_, rfl⟩
  refine ⟨w.heap.size + 1, [{ target := .collected w.heap.size, args := #[] }], (w.alloc (.deferred (some []))).alloc (.loop r0), { target := .fn (.func gf) lb, args := #[.func (.yield (w.heap.size + 1)) #[] #[]] }, (w.alloc (.deferred (some []))).alloc (.loop r0), gf, #[.func (.yield (w.heap.size + 1)) #[] #[]] ++ lb, (w.alloc (.deferred (some []))).alloc (.loop r0), ?_, ?_, fun _ _ => trivial, ?_, fun h => (by simp [Fence.wide] at h), ?_⟩
  · rw [hr0]; exact run_enterLoop_outer _ _ _ _ _
  · simp only [resolve, hg]
    simp [go_sem]
  · simp [invoke, go_sem, eg]
  · rw [hr0]
    refine (h (fun fn st pe => { state := st, pending := pe, fn, tmps := a.tmps, params := ps, assign, body, defers := w.heap.size }) (fun _ _ _ => rfl) fn).mono ?_
    rintro e W' ⟨⟨v, rfl⟩, hl, hk, hr⟩
    exact ⟨none, _, run_endLoop hl (by simp), hdone W' _ hr hk (Array.getElem?_eq_some_iff.1 hl).1⟩
/-- A round. -/
theorem round_se {P : Program} {l : Nat} {r : Loop} {W : World} {args : Array Value} {R : Ending → World → Prop} (hl : W.heap[l]? = some (.loop r)) (hs : args.size = r.params.size)
    (h : r.assign.wpIn (Fence.wide.inRound l) 0 P (Exit.then (fun a₁ w₁ => ∃ w₂, (Instr.beginRound l).run P w₁ = .ok () w₂ ∧ r.body.wpIn (Fence.wide.inRound l) 0 P (roundPost P l R) a₁ w₂) (fun _ _ _ => False))
      { tmps := (r.params.zip args).foldl (fun tmps (t, a) => tmps.setIfInBounds t a) r.tmps, defers := [] } W) : YieldAt Fence.wide 0 P l args W R :=
  ⟨_, _, _, _, run_yield hl hs, roundIn_of_wpIn trivial h⟩
/-- The block of the row that the box holds. -/
def rowOf (Bo : Nat) (W : World) : Option Nat := match W.heap[Bo]? with | some (.cells cs _ _) => (match cs[0]? with | some v => v.ownBlock | none => none) | _ => none
theorem rowOf_is {Bo g n c : Nat} {W : World} {T : TypeId} {fz : Nat × Nat} (h : W.heap[Bo]? = some (.cells #[.slice (some ⟨g, 0, none⟩) n c] T fz)) : rowOf Bo W = some g := by unfold rowOf; rw [h]; rfl
theorem rowOf_same {Bo : Nat} {W W' : World} (h : W'.heap[Bo]? = W.heap[Bo]?) : rowOf Bo W' = rowOf Bo W := by unfold rowOf; rw [h]
/-- The caller between two rounds. -/
structure SeJ (w : World) (r0 : Loop) (Bg Bo Bl D l n₁ : Nat) (A : Option Addr) (cL : Nat) (L : List Nat) (gb go cG : Nat) (W : World) (cnt : Nat) : Prop where
  out : ∃ g c, W.heap[Bo]? = some (.cells #[.slice (some ⟨g, 0, none⟩) cnt c] 37 (0, 0)) ∧ RwV W w.heap.size (some ⟨g, 0, none⟩) cnt c ∧ g ≠ Bg ∧ g ≠ Bo ∧ g ≠ Bl ∧ g ≠ D ∧ g ≠ l
  xg : W.heap[Bg]? = some (.cells #[.slice (some ⟨gb, go, none⟩) 4 cG] 24 (0, 0))
  xl : W.heap[Bl]? = some (.cells #[.slice A L.length cL] 24 (0, 0))
  rl : W.heap[l]? = some (.loop r0)
  rd : W.heap[D]? = some (.deferred (some []))
  bel : Below w.heap.size w W
  n1 : n₁ ≤ W.heap.size
theorem SeJ.lt {w : World} {r0 : Loop} {Bg Bo Bl D l n₁ : Nat} {A : Option Addr} {cL : Nat} {L : List Nat} {gb go cG : Nat} {W : World} {cnt : Nat} (h : SeJ w r0 Bg Bo Bl D l n₁ A cL L gb go cG W cnt) : ∀ k, rowOf Bo W = some k → k < W.heap.size := by
  intro k hk
  obtain ⟨g, c, h1, ⟨xs, _, h2⟩, _⟩ := h.out
  rw [rowOf_is h1] at hk
  cases hk
  exact (h2.lt _ rfl).2
theorem SeJ.same {w : World} {r0 : Loop} {Bg Bo Bl D l n₁ : Nat} {A : Option Addr} {cL : Nat} {L : List Nat} {gb go cG : Nat} {W W' : World} {cnt : Nat} (h : SeJ w r0 Bg Bo Bl D l n₁ A cL L gb go cG W cnt) (hp : ∀ b : Nat, W'.heap[b]? = W.heap[b]?) (hz : W.heap.size ≤ W'.heap.size) (hb : Below w.heap.size w W') :
    SeJ w r0 Bg Bo Bl D l n₁ A cL L gb go cG W' cnt := by
  obtain ⟨g, c, h1, ⟨xs, hx, h2⟩, h3⟩ := h.out
  exact ⟨⟨g, c, (hp Bo).trans h1, ⟨xs, hx, row_kept h2 (fun k _ => hp k)⟩, h3⟩, (hp Bg).trans h.xg, (hp Bl).trans h.xl, (hp l).trans h.rl, (hp D).trans h.rd, hb, Nat.le_trans h.n1 hz⟩
theorem SeJ.app {w : World} {r0 : Loop} {Bg Bo Bl D l n₁ : Nat} {A : Option Addr} {cL : Nat} {L : List Nat} {gb go cG : Nat} {W W2 w8 : World} {cnt g0 c0 g8 c8 : Nat} {x : Obj} {ys : List Value} (h : SeJ w r0 Bg Bo Bl D l n₁ A cL L gb go cG W cnt)
    (hn : Bg ≠ l ∧ Bo ≠ l ∧ Bl ≠ l ∧ D ≠ l ∧ Bg ≠ Bo ∧ Bl ≠ Bo ∧ D ≠ Bo ∧ Bo < n₁ ∧ l < n₁ ∧ w.heap.size ≤ Bo ∧ w.heap.size ≤ l) (h1 : W.heap[Bo]? = some (.cells #[.slice (some ⟨g0, 0, none⟩) cnt c0] 37 (0, 0))) (hg0 : g0 ≠ Bg ∧ g0 ≠ Bo ∧ g0 ≠ Bl ∧ g0 ≠ D ∧ g0 ≠ l)
    (k2 : ∀ b : Nat, b ≠ l → W2.heap[b]? = W.heap[b]?) (hz : W2.heap.size = W.heap.size) (hg : (W2.alloc x).grownBy w8 (some g0)) (hO : w8.ownsRow w.heap.size 24 1 (.slice (some ⟨g8, 0, none⟩) (cnt + 1) c8) (cnt + 1) ys) (hy : ∀ u ∈ ys, u.oneCell' = true)
    (hor : g8 = g0 ∨ g8 = (W2.alloc x).heap.size) (hB : Below w.heap.size w w8) :
    SeJ w r0 Bg Bo Bl D l n₁ A cL L gb go cG ((w8.setCell ⟨Bo, 0, none⟩ (.slice (some ⟨g8, 0, none⟩) (cnt + 1) c8)).putObj l (.loop r0)) (cnt + 1) ∧ Kept n₁ (rowOf Bo) W ((w8.setCell ⟨Bo, 0, none⟩ (.slice (some ⟨g8, 0, none⟩) (cnt + 1) c8)).putObj l (.loop r0)) := by
  obtain ⟨q1, q2, q3, q4, q5, q6, q7, q8, q9, q10, q11⟩ := hn
  obtain ⟨p1, p2, p3, p4, p5⟩ := hg0
  have hsz := hg.size
  rw [World.size_alloc, hz] at hsz
  rw [World.size_alloc, hz] at hor
  have lo := lt_of_block h1
  have lg := lt_of_block h.xg
  have ll := lt_of_block h.xl
  have lr := lt_of_block h.rl
  have ld := lt_of_block h.rd
  have k8 : ∀ b : Nat, b < W.heap.size → b ≠ l → b ≠ g0 → w8.heap[b]? = W.heap[b]? := fun b hb e1 e2 => (hg.block b (by rw [World.size_alloc]; omega) (fun e => e2 (by cases e; rfl))).trans ((Below.heap_alloc _ _ _ (by omega)).trans (k2 b e1))
  have k7 : ∀ b : Nat, b < W.heap.size → b ≠ l → b ≠ g0 → b ≠ Bo → ((w8.setCell ⟨Bo, 0, none⟩ (.slice (some ⟨g8, 0, none⟩) (cnt + 1) c8)).putObj l (.loop r0)).heap[b]? = W.heap[b]? := fun b hb e1 e2 e3 => (World.putObj_heap_other e1).trans ((Below.heap_setCell _ _ _ b e3).trans (k8 b hb e1 e2))
  have hbo : ((w8.setCell ⟨Bo, 0, none⟩ (.slice (some ⟨g8, 0, none⟩) (cnt + 1) c8)).putObj l (.loop r0)).heap[Bo]? = some (.cells #[.slice (some ⟨g8, 0, none⟩) (cnt + 1) c8] 37 (0, 0)) := by
    rw [World.putObj_heap_other q2, heap_setCell_same w8 Bo 0 _ _ _ ((k8 Bo lo q2 (fun e => p2 e.symm)).trans h1)]
    rfl
  have h8 : g8 ≠ Bg ∧ g8 ≠ Bo ∧ g8 ≠ Bl ∧ g8 ≠ D ∧ g8 ≠ l := by
    rcases hor with rfl | rfl
    · exact ⟨p1, p2, p3, p4, p5⟩
    · exact ⟨by omega, by omega, by omega, by omega, by omega⟩
  have gs := set_gr w8 Bo 0 (.slice (some ⟨g8, 0, none⟩) (cnt + 1) c8)
  have gp := grownBy_putObj' (w8.setCell ⟨Bo, 0, none⟩ (.slice (some ⟨g8, 0, none⟩) (cnt + 1) c8)) l (.loop r0)
  have hrow := World.ownsRow.kept (World.ownsRow.kept hO gs (.inr (by simp [Value.ownBlock]; exact h8.2.1))) gp (.inr (by simp [Value.ownBlock]; exact h8.2.2.2.2))
  have hs8 : w8.heap.size ≤ ((w8.setCell ⟨Bo, 0, none⟩ (.slice (some ⟨g8, 0, none⟩) (cnt + 1) c8)).putObj l (.loop r0)).heap.size := Nat.le_trans gs.size gp.size
  refine ⟨⟨⟨g8, c8, hbo, ⟨ys, hy, hrow⟩, h8⟩, (k7 Bg lg q1 (fun e => p1 e.symm) q5).trans h.xg, (k7 Bl ll q3 (fun e => p3 e.symm) q6).trans h.xl, ?_, (k7 D ld q4 (fun e => p4 e.symm) q7).trans h.rd, ((hB.grown gs hB.size (fun k e => by cases e; exact q10)).grown gp (Nat.le_trans hB.size gs.size) (fun k e => by cases e; exact q11)), ?_⟩, ?_, fun k a1 a2 a3 => ?_⟩
  · exact World.putObj_heap_same (Nat.lt_of_lt_of_le lr (Nat.le_trans (by omega) gs.size))
  · have := h.n1; omega
  · omega
  · rw [rowOf_is h1] at a3
    refine ⟨k7 k a2 (by omega) (fun e => a3 (by rw [e])) (by omega), ?_⟩
    rw [rowOf_is hbo]
    intro e
    cases e
    rcases hor with e | e
    · exact a3 (by rw [e])
    · omega
theorem chk_split (f : Nat → Nat → Bool) (r : List Nat) : ∀ (p gone : List Nat), chkB f gone (p ++ r) = (chkB f gone p && chkB f (gone ++ p) r)
  | [], gone => by simp [chkB]
  | x :: p, gone => by rw [List.cons_append, chkB, chkB, chk_split f r p (gone ++ [x]), List.append_assoc, List.singleton_append, Bool.and_assoc]
theorem SeJ.step {w : World} {r0 : Loop} {Bg Bo Bl D l n₁ : Nat} {A : Option Addr} {cL : Nat} {L : List Nat} {gb go cG : Nat} {W W' : World} {cnt : Nat} {row : Option Nat} (hn : Bg < n₁ ∧ Bo < n₁ ∧ Bl < n₁ ∧ D < n₁ ∧ l < n₁ ∧ w.heap.size ≤ n₁) (h : SeJ w r0 Bg Bo Bl D l n₁ A cL L gb go cG W cnt) (hg : W.grownBy W' row) (hr : ∀ k, row = some k → n₁ ≤ k ∧ rowOf Bo W ≠ some k) :
    SeJ w r0 Bg Bo Bl D l n₁ A cL L gb go cG W' cnt ∧ rowOf Bo W' = rowOf Bo W := by
  have kb : ∀ b, b < n₁ → W'.heap[b]? = W.heap[b]? := fun b hb => hg.block b (by have := h.n1; omega) (fun e => by have := (hr b e.symm).1; omega)
  obtain ⟨g, c, h1, ⟨xs, hx, h2⟩, h3⟩ := h.out
  refine ⟨⟨⟨g, c, (kb Bo hn.2.1).trans h1, ⟨xs, hx, World.ownsRow.kept h2 hg ?_⟩, h3⟩, (kb Bg hn.1).trans h.xg, (kb Bl hn.2.2.1).trans h.xl, (kb l hn.2.2.2.2.1).trans h.rl, (kb D hn.2.2.2.1).trans h.rd, h.bel.grown hg h.bel.size (fun k e => by have := (hr k e).1; omega), Nat.le_trans h.n1 hg.size⟩, rowOf_same (kb Bo hn.2.1)⟩
  cases row with
  | none => exact .inr (by simp [Value.ownBlock])
  | some k => exact .inr (fun e => (hr k rfl).2 ((rowOf_is h1).trans e))
theorem round_se' {P : Program} {l : Nat} {r : Loop} {W : World} {args : Array Value} {R : Ending → World → Prop} {fn : FuncId} {tmps : Array Value} {ps : Array Tmp} {assign body : Code} {d : Nat} {st : LoopState} {pe : Option Code} (hl : W.heap[l]? = some (.loop r)) (hr : r = { state := st, pending := pe, fn, tmps, params := ps, assign, body, defers := d }) (hs : args.size = ps.size)
    (h : assign.wpIn (Fence.wide.inRound l) 0 P (Exit.then (fun a₁ w₁ => ∃ w₂, (Instr.beginRound l).run P w₁ = .ok () w₂ ∧ body.wpIn (Fence.wide.inRound l) 0 P (roundPost P l R) a₁ w₂) (fun _ _ _ => False))
      { tmps := (ps.zip args).foldl (fun tmps (t, a) => tmps.setIfInBounds t a) tmps, defers := [] } W) : YieldAt Fence.wide 0 P l args W R := by
  subst hr
  exact round_se hl hs h
theorem rd_keep {W W2 : World} {B l : Nat} {A : Option Addr} {zs : List Int} {o : Loop} (h : RdI W B A zs) (hl : W.heap[l]? = some (.loop o)) (hk : ∀ b, b ≠ l → W2.heap[b]? = W.heap[b]?) : RdI W2 B A zs := by
  intro hz
  obtain ⟨b, off, e, hb, hc⟩ := h hz
  refine ⟨b, off, e, hb, fun k hk' => ?_⟩
  have h1 := hc k hk'
  have hne : b ≠ l := fun e => by subst e; simp [World.cell?, hl] at h1
  rw [← h1]
  simp [World.cell?, hk b hne]
set_option maxRecDepth 100000 in
set_option maxHeartbeats 4000000 in
theorem impl_ordersBy_any (f : Nat → Nat → Bool) (L : List Nat) (hL4 : L.length ≤ 4) (hL3 : ∀ x ∈ L, x ≤ 3) (A : Option Addr) (cL gb go cG : Nat) (w : World) (hRL : RdI w w.heap.size A (ci L)) (hRG : RdI w w.heap.size (some ⟨gb, go, none⟩) (mk4 f)) :
    Calls Try.prog 99 #[.slice A L.length cL, .slice (some ⟨gb, go, none⟩) 4 cG] w fun e w' => (∃ g c, e = .returned (.slice (some ⟨g, 0, none⟩) (perN f L L.length []) c)) ∧ Below w.heap.size w w' := by
  obtain ⟨n0, hn0, hm0, hm1, hm2⟩ := info_parts info_N
  refine (callsIn_wide (n := 0)).1 ?_
  refine callsIn_of_wp_marks Try.func99 rfl trivial ?_ rfl
  simp only [Try.ntmps99, List.size_toArray, List.length_cons, List.length_nil, Nat.reduceAdd, Nat.reduceSub, Array.replicate_succ, Array.replicate_zero, List.push_toArray, List.append_toArray, List.nil_append, List.cons_append]
  gi_wp2
  refine (wpIn_wide (n := 0)).2 (wp_scope_straight ((wpIn_wide (n := 0)).1 ?_))
  gi_wp2_with (first | (refine wpIn_label ?_) | (refine ⟨trivial, rfl, ?_⟩; gi_at_call 104; refine (callsIn_wide.2 (impl_perms_any _ _ _ _)).mono ?_; rintro e w1 ⟨rfl, rfl⟩))
  obtain ⟨Bg, eBg⟩ : ∃ b, b = w.heap.size := ⟨_, rfl⟩
  obtain ⟨Bo, eBo⟩ : ∃ b, b = w.heap.size + 1 + 1 := ⟨_, rfl⟩
  obtain ⟨Bl, eBl⟩ : ∃ b, b = w.heap.size + 1 + 1 + 1 := ⟨_, rfl⟩
  obtain ⟨W0, hW0⟩ : ∃ W0, W0 = ((((w.alloc (.cells #[.slice (some ⟨gb, go, none⟩) 4 cG] 24)).alloc (.cells #[] 24)).alloc (.cells #[.slice (some ⟨w.heap.size + 1, 0, none⟩) 0 0] 37)).alloc (.cells #[.slice A L.length cL] 24)) := ⟨_, rfl⟩
  have hz : W0.heap.size = w.heap.size + 4 := by rw [hW0]; simp
  rw [← hW0, ← eBl, ← eBo, ← eBg]
  have hB0 : Below w.heap.size w W0 := by rw [hW0]; (repeat' (first | (with_reducible exact Below.refl _ _) | (with_reducible assumption) | (with_reducible refine Below.al ?_ _) | (with_reducible refine Below.drew ?_) | (with_reducible refine Below.drN ?_ _) | (with_reducible refine Below.via (by with_reducible assumption) ?_) | (with_reducible refine Below.setc ?_ ?_ _) | (with_reducible exact Nat.le_refl _) | (simp; done) | (simp; omega)))
  have h1 : W0.heap[Bg]? = some (.cells #[.slice (some ⟨gb, go, none⟩) 4 cG] 24 (0, 0)) := by
    rw [hW0, eBg]
    exact (Below.heap_alloc _ _ _ (by simp; omega)).trans ((Below.heap_alloc _ _ _ (by simp; omega)).trans ((Below.heap_alloc _ _ _ (by simp)).trans (heap_alloc_new w _)))
  have h2 : W0.heap[Bo]? = some (.cells #[.slice (some ⟨w.heap.size + 1, 0, none⟩) 0 0] 37 (0, 0)) := by
    rw [hW0, eBo]
    have h := heap_alloc_new ((w.alloc (.cells #[.slice (some ⟨gb, go, none⟩) 4 cG] 24)).alloc (.cells #[] 24)) (.cells #[.slice (some ⟨w.heap.size + 1, 0, none⟩) 0 0] 37)
    rw [World.size_alloc, World.size_alloc] at h
    exact (Below.heap_alloc _ _ _ (by simp)).trans h
  have h3 : W0.heap[Bl]? = some (.cells #[.slice A L.length cL] 24 (0, 0)) := by
    rw [hW0, eBl]
    have h := heap_alloc_new (((w.alloc (.cells #[.slice (some ⟨gb, go, none⟩) 4 cG] 24)).alloc (.cells #[] 24)).alloc (.cells #[.slice (some ⟨w.heap.size + 1, 0, none⟩) 0 0] 37)) (.cells #[.slice A L.length cL] 24)
    rw [World.size_alloc, World.size_alloc, World.size_alloc] at h
    exact h
  have h4 : RwV W0 w.heap.size (some ⟨w.heap.size + 1, 0, none⟩) 0 0 := by
    refine ⟨[], by simp, ?_⟩
    have h := World.ownsRow_made (e := 24) (size := 1) (base := w.heap.size) (w.alloc (.cells #[.slice (some ⟨gb, go, none⟩) 4 cG] 24)) #[] 0 (by simp) (by simp [maxLen]) rfl
    rw [World.size_alloc] at h
    rw [hW0]
    exact row_kept (row_kept h (fun k hk => Below.heap_alloc _ _ k hk)) (fun k hk => Below.heap_alloc _ _ k hk)
  clear hW0
  refine rangeFunc_se rfl (enters_of Try.func109 (by kernel_rfl) rfl) (fun W' => ∃ g c, W'.heap[Bo]? = some (.cells #[.slice (some ⟨g, 0, none⟩) (perN f L L.length []) c] 37 (0, 0)) ∧ perN f L L.length [] ≤ c ∧ Below w.heap.size w W') ?main ?done
  case main =>
    intro rec hrec fn
    have hn1 : Bg < W0.heap.size + 2 ∧ Bo < W0.heap.size + 2 ∧ Bl < W0.heap.size + 2 ∧ W0.heap.size < W0.heap.size + 2 ∧ W0.heap.size + 1 < W0.heap.size + 2 ∧ w.heap.size ≤ W0.heap.size + 2 := by omega
    have hal : ∀ b, b < W0.heap.size → ((W0.alloc (.deferred (some []))).alloc (.loop (rec fn .ready none))).heap[b]? = W0.heap[b]? := fun b hb => (Below.heap_alloc _ _ _ (by simp; omega)).trans (Below.heap_alloc _ _ _ hb)
    have hJ0 : SeJ w (rec fn .ready none) Bg Bo Bl W0.heap.size (W0.heap.size + 1) (W0.heap.size + 2) A cL L gb go cG ((W0.alloc (.deferred (some []))).alloc (.loop (rec fn .ready none))) 0 := by
      obtain ⟨xs, hx, hr⟩ := h4
      refine ⟨⟨w.heap.size + 1, 0, (hal Bo (by omega)).trans h2, ⟨xs, hx, row_kept hr hal⟩, by omega, by omega, by omega, by omega, by omega⟩, (hal Bg (by omega)).trans h1, (hal Bl (by omega)).trans h3, heap2b W0 _ _, heap2a W0 _ _, (hB0.alloc hB0.size _).alloc (by simp; have := hB0.size; omega) _, by simp⟩
    have rec_is := Lib.hid (fun fn => hrec fn .ready none)
    have H : SeCall f (W0.heap.size + 2) (W0.heap.size + 1) Bl A cL L (fun W cnt => SeJ w (rec fn .ready none) Bg Bo Bl W0.heap.size (W0.heap.size + 1) (W0.heap.size + 2) A cL L gb go cG W cnt) (rowOf Bo) := by
      refine ⟨fun W W' cnt row hJ hg hr => hJ.step hn1 hg hr, fun W cnt hJ => hJ.lt, fun W cnt hJ => hJ.n1, fun W cnt hJ => ⟨by omega, hJ.xl, (hRL.below hJ.bel (Nat.le_refl _)).more (by omega)⟩, ?_⟩
      intro W cnt q Ag n c hJ hM hnq hn4 hnc hRq hq3
      obtain ⟨l, el⟩ : ∃ l, W0.heap.size + 1 = l := ⟨_, rfl⟩
      obtain ⟨D, eD⟩ : ∃ D, W0.heap.size = D := ⟨_, rfl⟩
      rw [el, eD] at hJ ⊢
      have HN1 := Lib.hid (show Bg < D + 2 ∧ Bo < D + 2 ∧ Bl < D + 2 ∧ l = D + 1 ∧ w.heap.size ≤ Bg ∧ w.heap.size ≤ Bo ∧ w.heap.size ≤ Bl ∧ Bo < D ∧ w.heap.size ≤ D ∧ Bg ≠ l ∧ Bo ≠ l ∧ Bg < D ∧ Bl < D ∧ Bg ≠ Bo ∧ Bl ≠ Bo by omega)
      have HNQ := Lib.hid hnq
      have HQ3 := Lib.hid hq3
      have HJ := Lib.hid hJ
      have hlW := lt_of_block hJ.rl
      obtain ⟨dd, hdd⟩ : ∃ dd, (if chkB f [] q then 1 else 0) = dd := ⟨_, rfl⟩
      rw [hdd]
      have HDD := Lib.hid hdd
      refine round_se' hJ.rl (rec_is.out fn) rfl ?_
      clear hnq hJ el eD hn1 hz hJ0 hal hB0 h1 h2 h3 h4 hq3 hdd hrec eBg eBo eBl
      gi_wp2
      refine ⟨_, run_beginRound HJ.out.rl (by rw [rec_is.out]), ?_⟩
      obtain ⟨W2, hW2⟩ : ∃ W2, W2 = W.putObj l (.loop { rec fn .ready none with state := .busy }) := ⟨_, rfl⟩
      rw [← hW2]
      have HZ2 := Lib.hid (show W2.heap.size = W.heap.size by rw [hW2]; simp [World.putObj])
      have k2 : ∀ b, b ≠ l → W2.heap[b]? = W.heap[b]? := fun b hb => by rw [hW2]; exact World.putObj_heap_other hb
      have kl : W2.heap[l]? = some (.loop { rec fn .ready none with state := .busy }) := by rw [hW2]; exact World.putObj_heap_same hlW
      have gl : W.grownBy W2 (some l) := by rw [hW2]; exact grownBy_putObj' W l _
      clear hW2
      have R2 := Lib.hid (rd_keep hRq HJ.out.rl k2)
      have G2 := Lib.hid (rd_keep (hRG.below HJ.out.bel (Nat.le_refl _)) HJ.out.rl k2)
      have K2 := Lib.hid k2
      have KL := Lib.hid kl
      have GL := Lib.hid gl
      have y1 : W2.cell? ⟨Bg, 0, none⟩ = some (.slice (some ⟨gb, go, none⟩) 4 cG) := cell_of_row W2 Bg 0 _ _ (0, 0) ((k2 Bg HN1.out.2.2.2.2.2.2.2.2.2.1).trans HJ.out.xg)
      clear k2 kl gl hRq
      gi_wp2
      gi_loopw [7, 9, 16] (fun v7 _ v16 wr => ∃ j : Nat, j ≤ n ∧ v16 = .int .i64 j ∧ v7 = .int .i64 (msk (hasN (q.take j))) ∧ chkB f [] (q.take j) = true ∧ wr = W2) (fun _ _ v16 _ => n - (intOf v16).toNat)
      case atStart => exact ⟨0, Nat.zero_le _, rfl, rfl, rfl, rfl⟩
      case round =>
        obtain ⟨j, hj, rfl, rfl, hck, rfl⟩ := hrel
        have HCK := Lib.hid hck
        clear hck
        by_cases hjn : j < n
        · have hjq : j < q.length := by have := HNQ.out; omega
          obtain ⟨t, ht⟩ : ∃ t, q[j] = t := ⟨_, rfl⟩
          have ht3 : t ≤ 3 := ht ▸ HQ3.out _ (List.getElem_mem hjq)
          have ht4 : (t : Int) < 4 := by omega
          obtain ⟨ob, oo, rfl, _, x1⟩ := R2.out.at_ (k := j) (by rw [ci_len]; exact hjq)
          rw [ci_at] at x1
          simp only [ht] at x1
          have x2 := mk4_cell f G2.out (a := t) ht3
          have hany := any_msk (p := q.take j) (fun u hu => HQ3.out u (List.mem_of_mem_take hu)) (f t)
          have htk : q.take (j + 1) = q.take j ++ [t] := by rw [List.take_succ_eq_append_getElem hjq, ht]
          have hor : bits .or .i64 (msk (hasN (q.take j))) (pwN t) = msk (hasN (q.take (j + 1))) := by
            rw [msk_or _ t ht3, htk]
            refine msk_same _ (fun b _ => ?_)
            rw [hasN_app]
            rw [Bool.eq_iff_iff, Bool.or_eq_true, Bool.or_eq_true, Nat.beq_eq, beq_iff_eq]
            exact ⟨fun h => h.imp_right Eq.symm, fun h => h.imp_right Eq.symm⟩
          have HTK := Lib.hid htk
          have HOR := Lib.hid hor
          clear htk hor ht
          cases ha : (q.take j).any (f t)
          · rw [ha] at hany
            have hany' : (bits BinOp.and IntKind.i64 (msk (f t)) (msk (hasN (q.take j))) != 0) = false := by rw [bne, hany]; rfl
            have HA := Lib.hid ha
            clear ha hany
            have HW := Lib.hid (show wrap64 (2 ^ t) = pwN t by unfold wrap64 pwN; rcases (show t = 0 ∨ t = 1 ∨ t = 2 ∨ t = 3 by omega) with rfl | rfl | rfl | rfl <;> decide)
            gi_wp2
            exact ⟨⟨j + 1, by omega, by go_num, by rw [HW.out, HOR.out], by rw [HTK.out, chk_app, HCK.out, HA.out]; rfl, trivial⟩, by simp [intOf]; omega⟩
          · rw [ha] at hany
            have hany' : (bits BinOp.and IntKind.i64 (msk (f t)) (msk (hasN (q.take j))) != 0) = true := by rw [bne, hany]; rfl
            have HA := Lib.hid ha
            clear ha hany
            gi_wp2
            have hbad : chkB f [] q = false := by
              rw [← List.take_append_drop (j + 1) q, HTK.out, chk_split, chk_app, HCK.out, HA.out]
              rfl
            have hd0 : dd = 0 := by rw [← HDD.out, hbad]; rfl
            have hpp : ∀ b : Nat, (wr.putObj l (.loop (rec fn .ready none))).heap[b]? = W.heap[b]? := fun b => by
              by_cases hb : b = l
              · rw [hb, World.putObj_heap_same (lt_of_block KL.out), HJ.out.rl]
              · rw [World.putObj_heap_other hb, K2.out b hb]
            have hbel : Below w.heap.size w (wr.putObj l (.loop (rec fn .ready none))) := (HJ.out.bel.grown GL.out HJ.out.bel.size (fun k e => by cases e; have := HN1.out; omega)).grown (grownBy_putObj' wr l _) (Nat.le_trans HJ.out.bel.size GL.out.size) (fun k e => by cases e; have := HN1.out; omega)
            have hsz : W.heap.size ≤ (wr.putObj l (.loop (rec fn .ready none))).heap.size := Nat.le_trans GL.out.size (grownBy_putObj' wr l _).size
            refine ⟨_, _, run_endRound none KL.out, rfl, ?_, ?_⟩
            · rw [show ({ ({ rec fn .ready none with state := .busy } : Loop) with state := if (none : Option Code).isNone then .ready else .done, pending := none } : Loop) = rec fn .ready none by rw [rec_is.out]; rfl]
              rw [hd0]
              exact HJ.out.same hpp hsz hbel
            · rw [show ({ ({ rec fn .ready none with state := .busy } : Loop) with state := if (none : Option Code).isNone then .ready else .done, pending := none } : Loop) = rec fn .ready none by rw [rec_is.out]; rfl]
              exact ⟨hsz, fun k _ _ h => ⟨hpp k, by rw [rowOf_same (hpp Bo)]; exact h⟩⟩
        · have hjj : j = n := by omega
          subst hjj
          obtain ⟨g0, c0, b1, ⟨xs, hxs, b2⟩, b3⟩ := HJ.out.out
          have HBX := Lib.hid b1
          have HG0 := Lib.hid b3
          have HXS := Lib.hid hxs
          have HRE := Lib.hid (show ({ ({ rec fn .ready none with state := .busy } : Loop) with state := if (none : Option Code).isNone then .ready else .done, pending := none } : Loop) = rec fn .ready none by rw [rec_is.out]; rfl)
          have hd1 : dd = 1 := by
            rw [← HDD.out]
            have h := HCK.out
            rw [List.take_of_length_le (Nat.le_of_eq HNQ.out.symm)] at h
            rw [h]
            rfl
          have HNE := Lib.hid (show Bg ≠ l ∧ Bo ≠ l ∧ Bl ≠ l ∧ D ≠ l ∧ Bg ≠ Bo ∧ Bl ≠ Bo ∧ D ≠ Bo ∧ Bo < D + 2 ∧ l < D + 2 ∧ w.heap.size ≤ Bo ∧ w.heap.size ≤ l by have := HN1.out; omega)
          have hBoW := lt_of_block b1
          have hlW' := lt_of_block HJ.out.rl
          obtain ⟨wd, hwd⟩ : ∃ wd, wd = wr.drew := ⟨_, rfl⟩
          have hzd : wd.heap.size = W.heap.size := by
            rw [hwd]
            have h1 : wr.heap.size = W.heap.size := HZ2.out
            exact h1
          have hbd : wd.heap[Bo]? = some (.cells #[.slice (some ⟨g0, 0, none⟩) cnt c0] 37 (0, 0)) := by rw [hwd]; exact (K2.out Bo HNE.out.2.1).trans b1
          have HK := Lib.hid (show ∀ b : Nat, b ≠ l → wd.heap[b]? = W.heap[b]? from fun b hb => by rw [hwd]; exact K2.out b hb)
          have hldd : wd.heap[l]? = some (.loop { rec fn .ready none with state := .busy }) := by rw [hwd]; exact KL.out
          have hrw1 : wr.ownsRow w.heap.size 24 1 (.slice (some ⟨g0, 0, none⟩) cnt c0) cnt xs := World.ownsRow.kept b2 GL.out (.inr (by simp [Value.ownBlock]; exact fun e => b3.2.2.2.2 e))
          have HRW := Lib.hid (show wd.ownsRow w.heap.size 24 1 (.slice (some ⟨g0, 0, none⟩) cnt c0) cnt xs by rw [hwd]; exact hrw1)
          clear hrw1
          have HBD := Lib.hid (show Below w.heap.size w wd by rw [hwd]; exact Below.drew (HJ.out.bel.grown GL.out HJ.out.bel.size (fun k e => by cases e; exact HNE.out.2.2.2.2.2.2.2.2.2.2)))
          have hsw : w.heap.size ≤ wd.heap.size := HBD.out.size
          have hBd : Bo < wd.heap.size := by omega
          have hld : l < wd.heap.size := by omega
          have hgo : g0 ≠ Bo := b3.2.1
          have y3 : wd.cell? ⟨Bo, 0, none⟩ = some (.slice (some ⟨g0, 0, none⟩) cnt c0) := cell_of_row wd Bo 0 _ _ (0, 0) hbd
          have hBe : Bo ≠ wd.heap.size := by omega
          have HZD := Lib.hid hzd
          clear b1 b2 b3 hxs hzd
          gi_wp2
          refine wpIn_region_any follows ?_
          change wpAnyIn _ _ _ _ _ _ _ _ _ (World.drew _)
          rw [← hwd]
          clear hwd
          refine wpAnyIn_ready (rs := [0, 1]) (by kernel_rfl) (by simp) ?_
          refine AllReadyIn.cons rfl (fun K hK => ?_) ?_
          · go_simp
            refine hK _ _ ?_
            clear hK K
            refine wpAnyIn_ready (rs := [1]) (by kernel_rfl) (by simp) ?_
            refine AllReadyIn.cons rfl (fun K hK => ?_) ?_
            · go_simp
              refine hK _ _ ?_
              clear hK K
              refine wpAnyIn_ready (rs := [2]) (by kernel_rfl) (by simp) ?_
              refine AllReadyIn.cons rfl (fun K hK => ?_) ?_
              · go_simp
                refine ⟨trivial, rfl, ?_⟩
                refine (CallsIn.inRound l (callsIn_wide.2 (Clip_ci_any _ _ _ _ hnc))).mono ?_
                rintro e w' ⟨rfl, rfl⟩
                dsimp only
                refine hK _ _ ?_
                clear hK K
                refine wpAnyIn_ready (rs := [3]) (by kernel_rfl) (by simp) ?_
                refine AllReadyIn.cons rfl (fun K hK => ?_) ?_
                · go_simp
                  refine hK _ _ ?_
                  clear hK K
                  refine wpAnyIn_ready (rs := [4]) (by kernel_rfl) (by simp) ?_
                  refine AllReadyIn.cons rfl (fun K hK => ?_) ?_
                  · refine step_appendIn_own rfl (.tmp 32) (.tmp 35) 37 rfl w.heap.size 24 n0 _ 24 Try.underlying37 hn0 hm0 hm1 hm2 rfl g0 c0 cnt xs rfl (row_kept HRW.out (fun k hk => Below.heap_alloc _ _ k hk)) ⟨wd.heap.size, 0, none⟩ 1 1 [.slice Ag j j] rfl rfl (cell_one_new _ _ _) (by simp [Value.oneCell']) (by unfold maxLen; omega) (by omega) (by simp; omega) w (HBD.out.alloc hsw _) ?_
                    intro g8 c8 w8 hO8 hg8 hor8 hB8
                    have z0 : w8.heap[Bo]? = some (.cells #[.slice (some ⟨g0, 0, none⟩) cnt c0] 37 (0, 0)) := (hg8.block Bo (by simp; omega) (fun e => hgo (by cases e; rfl))).trans ((Below.heap_alloc _ _ _ hBd).trans hbd)
                    have z1 : w8.cell? ⟨Bo, 0, none⟩ = some (.slice (some ⟨g0, 0, none⟩) cnt c0) := cell_of_row w8 Bo 0 _ _ (0, 0) z0
                    have z2 : w8.frozen? ⟨Bo, 0, none⟩ = false := frozen_of_row w8 Bo 0 _ _ z0
                    refine hK _ _ ?_
                    clear hK K
                    refine wpAnyIn_ready (rs := [5]) (by kernel_rfl) (by simp) ?_
                    refine AllReadyIn.cons rfl (fun K hK => ?_) ?_
                    · go_simp
                      refine hK _ _ ?_
                      clear hK K
                      refine wpAnyIn_done (by kernel_rfl) ?_ _
                      gi_wp2
                      obtain ⟨a1, a2⟩ := HJ.out.app HNE.out HBX.out HG0.out HK.out HZD.out hg8 hO8 (fun u hu => by rcases List.mem_append.1 hu with h | h; exact HXS.out u h; simp at h; subst h; rfl) hor8 hB8
                      refine ⟨_, _, run_endRound none (l := l) (r := { rec fn .ready none with state := .busy }) ?_, rfl, ?_, ?_⟩
                      · exact (Below.heap_setCell w8 _ _ l (fun e => HNE.out.2.1 e.symm)).trans ((hg8.block l (by simp; omega) (fun e => HG0.out.2.2.2.2 (by cases e; rfl))).trans ((Below.heap_alloc _ _ _ hld).trans hldd))
                      · rw [HRE.out, hd1]
                        exact a1
                      · rw [HRE.out]
                        exact a2
                    exact AllReadyIn.nil
                  exact AllReadyIn.nil
                exact AllReadyIn.nil
              exact AllReadyIn.nil
            exact AllReadyIn.nil
          refine AllReadyIn.cons rfl (fun K hK => ?_) ?_
          · go_simp
            refine hK _ _ ?_
            clear hK K
            refine wpAnyIn_ready (rs := [0, 2]) (by kernel_rfl) (by simp) ?_
            refine AllReadyIn.cons rfl (fun K hK => ?_) ?_
            · go_simp
              refine hK _ _ ?_
              clear hK K
              refine wpAnyIn_ready (rs := [2]) (by kernel_rfl) (by simp) ?_
              refine AllReadyIn.cons rfl (fun K hK => ?_) ?_
              · go_simp
                refine ⟨trivial, rfl, ?_⟩
                refine (CallsIn.inRound l (callsIn_wide.2 (Clip_ci_any _ _ _ _ hnc))).mono ?_
                rintro e w' ⟨rfl, rfl⟩
                dsimp only
                refine hK _ _ ?_
                clear hK K
                refine wpAnyIn_ready (rs := [3]) (by kernel_rfl) (by simp) ?_
                refine AllReadyIn.cons rfl (fun K hK => ?_) ?_
                · go_simp
                  refine hK _ _ ?_
                  clear hK K
                  refine wpAnyIn_ready (rs := [4]) (by kernel_rfl) (by simp) ?_
                  refine AllReadyIn.cons rfl (fun K hK => ?_) ?_
                  · refine step_appendIn_own rfl (.tmp 32) (.tmp 35) 37 rfl w.heap.size 24 n0 _ 24 Try.underlying37 hn0 hm0 hm1 hm2 rfl g0 c0 cnt xs rfl (row_kept HRW.out (fun k hk => Below.heap_alloc _ _ k hk)) ⟨wd.heap.size, 0, none⟩ 1 1 [.slice Ag j j] rfl rfl (cell_one_new _ _ _) (by simp [Value.oneCell']) (by unfold maxLen; omega) (by omega) (by simp; omega) w (HBD.out.alloc hsw _) ?_
                    intro g8 c8 w8 hO8 hg8 hor8 hB8
                    have z0 : w8.heap[Bo]? = some (.cells #[.slice (some ⟨g0, 0, none⟩) cnt c0] 37 (0, 0)) := (hg8.block Bo (by simp; omega) (fun e => hgo (by cases e; rfl))).trans ((Below.heap_alloc _ _ _ hBd).trans hbd)
                    have z1 : w8.cell? ⟨Bo, 0, none⟩ = some (.slice (some ⟨g0, 0, none⟩) cnt c0) := cell_of_row w8 Bo 0 _ _ (0, 0) z0
                    have z2 : w8.frozen? ⟨Bo, 0, none⟩ = false := frozen_of_row w8 Bo 0 _ _ z0
                    refine hK _ _ ?_
                    clear hK K
                    refine wpAnyIn_ready (rs := [5]) (by kernel_rfl) (by simp) ?_
                    refine AllReadyIn.cons rfl (fun K hK => ?_) ?_
                    · go_simp
                      refine hK _ _ ?_
                      clear hK K
                      refine wpAnyIn_done (by kernel_rfl) ?_ _
                      gi_wp2
                      obtain ⟨a1, a2⟩ := HJ.out.app HNE.out HBX.out HG0.out HK.out HZD.out hg8 hO8 (fun u hu => by rcases List.mem_append.1 hu with h | h; exact HXS.out u h; simp at h; subst h; rfl) hor8 hB8
                      refine ⟨_, _, run_endRound none (l := l) (r := { rec fn .ready none with state := .busy }) ?_, rfl, ?_, ?_⟩
                      · exact (Below.heap_setCell w8 _ _ l (fun e => HNE.out.2.1 e.symm)).trans ((hg8.block l (by simp; omega) (fun e => HG0.out.2.2.2.2 (by cases e; rfl))).trans ((Below.heap_alloc _ _ _ hld).trans hldd))
                      · rw [HRE.out, hd1]
                        exact a1
                      · rw [HRE.out]
                        exact a2
                    exact AllReadyIn.nil
                  exact AllReadyIn.nil
                exact AllReadyIn.nil
              exact AllReadyIn.nil
            refine AllReadyIn.cons rfl (fun K hK => ?_) ?_
            · go_simp
              refine ⟨trivial, rfl, ?_⟩
              refine (CallsIn.inRound l (callsIn_wide.2 (Clip_ci_any _ _ _ _ hnc))).mono ?_
              rintro e w' ⟨rfl, rfl⟩
              dsimp only
              refine hK _ _ ?_
              clear hK K
              refine wpAnyIn_ready (rs := [0, 3]) (by kernel_rfl) (by simp) ?_
              refine AllReadyIn.cons rfl (fun K hK => ?_) ?_
              · go_simp
                refine hK _ _ ?_
                clear hK K
                refine wpAnyIn_ready (rs := [3]) (by kernel_rfl) (by simp) ?_
                refine AllReadyIn.cons rfl (fun K hK => ?_) ?_
                · go_simp
                  refine hK _ _ ?_
                  clear hK K
                  refine wpAnyIn_ready (rs := [4]) (by kernel_rfl) (by simp) ?_
                  refine AllReadyIn.cons rfl (fun K hK => ?_) ?_
                  · refine step_appendIn_own rfl (.tmp 32) (.tmp 35) 37 rfl w.heap.size 24 n0 _ 24 Try.underlying37 hn0 hm0 hm1 hm2 rfl g0 c0 cnt xs rfl (row_kept HRW.out (fun k hk => Below.heap_alloc _ _ k hk)) ⟨wd.heap.size, 0, none⟩ 1 1 [.slice Ag j j] rfl rfl (cell_one_new _ _ _) (by simp [Value.oneCell']) (by unfold maxLen; omega) (by omega) (by simp; omega) w (HBD.out.alloc hsw _) ?_
                    intro g8 c8 w8 hO8 hg8 hor8 hB8
                    have z0 : w8.heap[Bo]? = some (.cells #[.slice (some ⟨g0, 0, none⟩) cnt c0] 37 (0, 0)) := (hg8.block Bo (by simp; omega) (fun e => hgo (by cases e; rfl))).trans ((Below.heap_alloc _ _ _ hBd).trans hbd)
                    have z1 : w8.cell? ⟨Bo, 0, none⟩ = some (.slice (some ⟨g0, 0, none⟩) cnt c0) := cell_of_row w8 Bo 0 _ _ (0, 0) z0
                    have z2 : w8.frozen? ⟨Bo, 0, none⟩ = false := frozen_of_row w8 Bo 0 _ _ z0
                    refine hK _ _ ?_
                    clear hK K
                    refine wpAnyIn_ready (rs := [5]) (by kernel_rfl) (by simp) ?_
                    refine AllReadyIn.cons rfl (fun K hK => ?_) ?_
                    · go_simp
                      refine hK _ _ ?_
                      clear hK K
                      refine wpAnyIn_done (by kernel_rfl) ?_ _
                      gi_wp2
                      obtain ⟨a1, a2⟩ := HJ.out.app HNE.out HBX.out HG0.out HK.out HZD.out hg8 hO8 (fun u hu => by rcases List.mem_append.1 hu with h | h; exact HXS.out u h; simp at h; subst h; rfl) hor8 hB8
                      refine ⟨_, _, run_endRound none (l := l) (r := { rec fn .ready none with state := .busy }) ?_, rfl, ?_, ?_⟩
                      · exact (Below.heap_setCell w8 _ _ l (fun e => HNE.out.2.1 e.symm)).trans ((hg8.block l (by simp; omega) (fun e => HG0.out.2.2.2.2 (by cases e; rfl))).trans ((Below.heap_alloc _ _ _ hld).trans hldd))
                      · rw [HRE.out, hd1]
                        exact a1
                      · rw [HRE.out]
                        exact a2
                    exact AllReadyIn.nil
                  exact AllReadyIn.nil
                exact AllReadyIn.nil
              refine AllReadyIn.cons rfl (fun K hK => ?_) ?_
              · go_simp
                refine hK _ _ ?_
                clear hK K
                refine wpAnyIn_ready (rs := [0]) (by kernel_rfl) (by simp) ?_
                refine AllReadyIn.cons rfl (fun K hK => ?_) ?_
                · go_simp
                  refine hK _ _ ?_
                  clear hK K
                  refine wpAnyIn_ready (rs := [4]) (by kernel_rfl) (by simp) ?_
                  refine AllReadyIn.cons rfl (fun K hK => ?_) ?_
                  · refine step_appendIn_own rfl (.tmp 32) (.tmp 35) 37 rfl w.heap.size 24 n0 _ 24 Try.underlying37 hn0 hm0 hm1 hm2 rfl g0 c0 cnt xs rfl (row_kept HRW.out (fun k hk => Below.heap_alloc _ _ k hk)) ⟨wd.heap.size, 0, none⟩ 1 1 [.slice Ag j j] rfl rfl (cell_one_new _ _ _) (by simp [Value.oneCell']) (by unfold maxLen; omega) (by omega) (by simp; omega) w (HBD.out.alloc hsw _) ?_
                    intro g8 c8 w8 hO8 hg8 hor8 hB8
                    have z0 : w8.heap[Bo]? = some (.cells #[.slice (some ⟨g0, 0, none⟩) cnt c0] 37 (0, 0)) := (hg8.block Bo (by simp; omega) (fun e => hgo (by cases e; rfl))).trans ((Below.heap_alloc _ _ _ hBd).trans hbd)
                    have z1 : w8.cell? ⟨Bo, 0, none⟩ = some (.slice (some ⟨g0, 0, none⟩) cnt c0) := cell_of_row w8 Bo 0 _ _ (0, 0) z0
                    have z2 : w8.frozen? ⟨Bo, 0, none⟩ = false := frozen_of_row w8 Bo 0 _ _ z0
                    refine hK _ _ ?_
                    clear hK K
                    refine wpAnyIn_ready (rs := [5]) (by kernel_rfl) (by simp) ?_
                    refine AllReadyIn.cons rfl (fun K hK => ?_) ?_
                    · go_simp
                      refine hK _ _ ?_
                      clear hK K
                      refine wpAnyIn_done (by kernel_rfl) ?_ _
                      gi_wp2
                      obtain ⟨a1, a2⟩ := HJ.out.app HNE.out HBX.out HG0.out HK.out HZD.out hg8 hO8 (fun u hu => by rcases List.mem_append.1 hu with h | h; exact HXS.out u h; simp at h; subst h; rfl) hor8 hB8
                      refine ⟨_, _, run_endRound none (l := l) (r := { rec fn .ready none with state := .busy }) ?_, rfl, ?_, ?_⟩
                      · exact (Below.heap_setCell w8 _ _ l (fun e => HNE.out.2.1 e.symm)).trans ((hg8.block l (by simp; omega) (fun e => HG0.out.2.2.2.2 (by cases e; rfl))).trans ((Below.heap_alloc _ _ _ hld).trans hldd))
                      · rw [HRE.out, hd1]
                        exact a1
                      · rw [HRE.out]
                        exact a2
                    exact AllReadyIn.nil
                  exact AllReadyIn.nil
                exact AllReadyIn.nil
              exact AllReadyIn.nil
            exact AllReadyIn.nil
          exact AllReadyIn.nil
    refine (impl_perms1_in H hL4 hL3 _ hJ0).mono ?_
    rintro e W' ⟨hv, hJ⟩
    obtain ⟨g, c, a1, ⟨xs, _, a2⟩, _⟩ := hJ.out
    obtain ⟨A3, c3, e3, a3⟩ := row_form a2
    injection e3 with _ _ e3
    exact ⟨hv, hJ.rl, hJ.rd, g, c, a1, by omega, hJ.bel⟩
  case done =>
    rintro W' o ⟨g, c, hb, hc, hbel⟩ hk hlt
    have hbb : (W'.putObj (W0.heap.size + 1) o).heap[Bo]? = some (.cells #[.slice (some ⟨g, 0, none⟩) (perN f L L.length []) c] 37 (0, 0)) := (World.putObj_heap_other (by omega)).trans hb
    have hkk : (W'.putObj (W0.heap.size + 1) o).heap[W0.heap.size]? = some (.deferred (some [])) := (World.putObj_heap_other (by omega)).trans hk
    have hbe : Below w.heap.size w (W'.putObj (W0.heap.size + 1) o) := hbel.grown (grownBy_putObj' W' _ o) hbel.size (fun k e => by cases e; omega)
    obtain ⟨W3, hW3⟩ : ∃ W3, W3 = W'.putObj (W0.heap.size + 1) o := ⟨_, rfl⟩
    rw [← hW3] at hbb hkk hbe ⊢
    have y1 : W3.cell? ⟨Bo, 0, none⟩ = some (.slice (some ⟨g, 0, none⟩) (perN f L L.length []) c) := cell_of_row W3 Bo 0 _ _ (0, 0) hbb
    obtain ⟨D, eD⟩ : ∃ D, W0.heap.size = D := ⟨_, rfl⟩
    rw [eD] at hkk ⊢
    have hwD : w.heap.size ≤ D := by omega
    clear hW3 eBg eBo eBl hz eD h1 h2 h3 h4 hb hk hlt hB0
    gi_wp2_with (refine ⟨trivial, rfl, ?_⟩; gi_at_call 49; refine (callsIn_wide.2 (Clip_RR_any _ _ _ _ hc)).mono ?_; rintro e w' ⟨rfl, rfl⟩)
    rw [Exit.noGoto_ret]
    refine ⟨by simp, .inl ⟨_, _, rfl, run_takeDeferred hkk, ?_⟩⟩
    refine ⟨_, results_tmp rfl _ _ _, ⟨g, _, rfl⟩, ?_⟩
    exact hbe.grown (grownBy_putObj' W3 D _) hbe.size (fun k e => by cases e; exact hwD)
end Go.Proofs.Ytaflkbemecjcpaa
