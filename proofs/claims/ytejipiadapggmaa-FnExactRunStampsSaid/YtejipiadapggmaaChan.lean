/- Communication in one goroutine, for the walk 'Code.wp': a region that ends in a send into a buffer with room; a region that begins with a receive. -/
import Derived.Conc.LoneCalls
import Derived.Test.YtejipiadapggmaaFilt
namespace Go.Proofs.Ytejipiadapggmaa
set_option linter.unusedSimpArgs false
set_option linter.unusedVariables false
open Go.RowKit Go.Conc

/-- The rest of a region, said of every frame. -/
def Tail (P : Program) (ops : Array Oper) (Q : Exit → Act → World → Prop) (l : List Nat) (a : Act) (w : World) : Prop :=
  ∀ (b : Frame) (k : List Item) (cs : List Frame), ∃ e a' w', Q e a' w' ∧ Arrives P (lone (b.at a (.inRegion ops l :: k)) cs w) b k cs e a' w'

section
variable {P : Program} {ops : Array Oper} {Q : Exit → Act → World → Prop} {a : Act} {w : World}
theorem tail_nil (h : Q .normal a w) : Tail P ops Q [] a w := fun b k cs => ⟨.normal, a, w, h, .one step_region_end⟩
theorem tail_step {i : Nat} {rest : List Nat} {a' : Act} {w' : World} (hs : ∀ (b : Frame) (k : List Item) (cs : List Frame), step P (lone (b.at a (.inRegion ops (i :: rest) :: k)) cs w) = .next (lone (b.at a' (.inRegion ops rest :: k)) cs w'))
    (h : Tail P ops Q rest a' w') : Tail P ops Q (i :: rest) a w := fun b k cs => by
  obtain ⟨e, a₁, w₁, hq, harr⟩ := h b k cs
  exact ⟨e, a₁, w₁, hq, .of_steps (.one (hs b k cs)) harr⟩
theorem fin_at {b : Frame} {k : List Item} {i : Nat} {rest : List Nat} {o : Oper} (ho : ops[i]? = some o) (v : Value) : (b.at a (.inRegion ops (i :: rest) :: k)).finish v = b.at (a.put o.dst v) (.inRegion ops rest :: k) := by
  rw [Frame.finish_at, ho]; rfl
theorem tail_val {i : Nat} {rest : List Nat} {o : Oper} {v : Value} {w' : World} (ho : ops[i]? = some o) (hw : Region.wanted o (yielded ops a.tmps) = true) (hr : (execOp a.eval o).run P w = .ok (.value v) w')
    (h : Tail P ops Q rest (a.put o.dst v) w') : Tail P ops Q (i :: rest) a w := by
  refine tail_step (fun b k cs => step_lone_go ?_) h
  rw [stepG_op ho hw, ← fin_at ho]
  simp [stepG.apply, hr]
theorem comm_any {i : Nat} {rest : List Nat} {o : Oper} {cases : Array CommCase} {blocking : Bool} {shape : CommShape} {w' : World} (ho : ops[i]? = some o) (hw : Region.wanted o (yielded ops a.tmps) = true)
    (hr : (execOp a.eval o).run P w = .ok (.comm cases blocking shape) w') (b : Frame) (k : List Item) (cs : List Frame) :
    ∃ es, stepG P true (G (b.at a (.inRegion ops (i :: rest) :: k)) cs) w = .comm (G (b.at a (.inRegion ops (i :: rest) :: k)) cs) cases blocking shape w' es := by
  unfold G
  rw [stepG_op ho hw]
  simp [stepG.apply, hr, GStep.after, G]
theorem tail_send {i : Nat} {rest : List Nat} {o : Oper} {v z' : Value} {c cap s r : Nat} {buf : Array Value} {tm : Bool} {w' : World} (ho : ops[i]? = some o) (hw : Region.wanted o (yielded ops a.tmps) = true)
    (hr : (execOp a.eval o).run P w = .ok (.comm #[scase c v z'] true .send) w') (hc : w'.heap[c]? = some (.chan cap buf false s r tm)) (hroom : buf.size < cap)
    (h : Tail P ops Q rest (a.put o.dst undef) (w'.setChan c cap (buf.push v) false (s + 1) r tm)) : Tail P ops Q (i :: rest) a w := by
  refine tail_step (fun b k cs => ?_) h
  obtain ⟨es, he⟩ := comm_any (rest := rest) ho hw hr b k cs
  have := step_lone_send_room he hc hroom
  rw [fin_at ho] at this
  exact this
theorem tail_recv_buf {i : Nat} {rest : List Nat} {o : Oper} {z : Value} {c cap s r : Nat} {buf : Array Value} {closed tm : Bool} {w' : World} (ok : Bool) (ho : ops[i]? = some o) (hw : Region.wanted o (yielded ops a.tmps) = true)
    (hr : (execOp a.eval o).run P w = .ok (.comm #[rcase c z] true (.recv ok)) w') (hc : w'.heap[c]? = some (.chan cap buf closed s r tm)) (hsome : 0 < buf.size)
    (h : Tail P ops Q rest (a.put o.dst (got ok (buf.getD 0 undef) true)) (w'.setChan c cap (buf.extract 1 buf.size) closed s (r + 1) tm)) : Tail P ops Q (i :: rest) a w := by
  refine tail_step (fun b k cs => ?_) h
  obtain ⟨es, he⟩ := comm_any (rest := rest) ho hw hr b k cs
  have := step_lone_recv_buf ok he hc hsome
  rw [fin_at ho] at this
  exact this
theorem tail_recv_shut {i : Nat} {rest : List Nat} {o : Oper} {z : Value} {c cap s r : Nat} {tm : Bool} {w' : World} (ok : Bool) (ho : ops[i]? = some o) (hw : Region.wanted o (yielded ops a.tmps) = true)
    (hr : (execOp a.eval o).run P w = .ok (.comm #[rcase c z] true (.recv ok)) w') (hc : w'.heap[c]? = some (.chan cap #[] true s r tm))
    (h : Tail P ops Q rest (a.put o.dst (got ok z false)) w') : Tail P ops Q (i :: rest) a w := by
  refine tail_step (fun b k cs => ?_) h
  obtain ⟨es, he⟩ := comm_any (rest := rest) ho hw hr b k cs
  have := step_lone_recv_shut ok he hc
  rw [fin_at ho] at this
  exact this
theorem wp_region_tail {id : Nat} (h : Tail P ops Q (List.range ops.size) a w) : (Code.region id ops false).wp P Q a w := fun b k cs => by
  obtain ⟨e, a₁, w₁, hq, harr⟩ := h b k cs
  exact ⟨e, a₁, w₁, hq, .of_steps (.one step_region) harr⟩
theorem wanted_none {o : Oper} (h : o.guard = none) (y : Nat → Option Bool) : Region.wanted o y = true := by simp [Region.wanted, h]

/-- 'ch <- v' as it stands in a region of three operations: the channel's move, the value's load, the send. -/
theorem wp_send3 {id : Nat} {o0 o1 o2 : Oper} {v0 v1 v z' : Value} {c cap s r : Nat} {buf : Array Value} {tm : Bool} (g0 : o0.guard = none) (g1 : o1.guard = none) (g2 : o2.guard = none)
    (h0 : (execOp a.eval o0).run P w = .ok (.value v0) w) (h1 : (execOp (a.put o0.dst v0).eval o1).run P w = .ok (.value v1) w)
    (h2 : (execOp ((a.put o0.dst v0).put o1.dst v1).eval o2).run P w = .ok (.comm #[scase c v z'] true .send) w) (hc : w.heap[c]? = some (.chan cap buf false s r tm)) (hroom : buf.size < cap)
    (h : wpList P #[] Q [] (((a.put o0.dst v0).put o1.dst v1).put o2.dst undef) (w.setChan c cap (buf.push v) false (s + 1) r tm)) : (Code.region id #[o0, o1, o2] false).wp P Q a w := by
  refine wp_region_tail ?_
  change Tail P _ Q [0, 1, 2] a w
  refine tail_val rfl (wanted_none g0 _) h0 (tail_val rfl (wanted_none g1 _) h1 (tail_send rfl (wanted_none g2 _) h2 hc hroom (tail_nil h)))
/-- 'v, ok := <-ch' of a range: something is in the buffer. -/
theorem wp_recv2 {id : Nat} {o0 o1 : Oper} {v1 z : Value} {c cap s r : Nat} {buf : Array Value} {closed tm : Bool} (g0 : o0.guard = none) (g1 : o1.guard = none)
    (h0 : (execOp a.eval o0).run P w = .ok (.comm #[rcase c z] true (.recv true)) w) (hc : w.heap[c]? = some (.chan cap buf closed s r tm)) (hsome : 0 < buf.size)
    (h1 : (execOp (a.put o0.dst (.tuple #[buf.getD 0 undef, .bool true])).eval o1).run P (w.setChan c cap (buf.extract 1 buf.size) closed s (r + 1) tm) = .ok (.value v1) (w.setChan c cap (buf.extract 1 buf.size) closed s (r + 1) tm))
    (h : wpList P #[] Q [] ((a.put o0.dst (.tuple #[buf.getD 0 undef, .bool true])).put o1.dst v1) (w.setChan c cap (buf.extract 1 buf.size) closed s (r + 1) tm)) : (Code.region id #[o0, o1] false).wp P Q a w := by
  refine wp_region_tail ?_
  change Tail P _ Q [0, 1] a w
  exact tail_recv_buf true rfl (wanted_none g0 _) h0 hc hsome (tail_val rfl (wanted_none g1 _) h1 (tail_nil h))
/-- .. the buffer is empty and the channel closed. -/
theorem wp_recv2_shut {id : Nat} {o0 o1 : Oper} {v1 z : Value} {c cap s r : Nat} {tm : Bool} (g0 : o0.guard = none) (g1 : o1.guard = none)
    (h0 : (execOp a.eval o0).run P w = .ok (.comm #[rcase c z] true (.recv true)) w) (hc : w.heap[c]? = some (.chan cap #[] true s r tm))
    (h1 : (execOp (a.put o0.dst (.tuple #[z, .bool false])).eval o1).run P w = .ok (.value v1) w)
    (h : wpList P #[] Q [] ((a.put o0.dst (.tuple #[z, .bool false])).put o1.dst v1) w) : (Code.region id #[o0, o1] false).wp P Q a w := by
  refine wp_region_tail ?_
  change Tail P _ Q [0, 1] a w
  exact tail_recv_shut true rfl (wanted_none g0 _) h0 hc (tail_val rfl (wanted_none g1 _) h1 (tail_nil h))
end
end Go.Proofs.Ytejipiadapggmaa
