/- Keys of a map that are structs of two ints: what they read as. No program in sight but the type's row. -/
import Derived.WalkKit
import Derived.Maps.Own
import Derived.Maps.OwnOps
import Derived.Maps.RangeWalk
import Derived.DeepKeys4
namespace Go.Proofs.Ytaflkbemecjcpaa
set_option linter.unusedSimpArgs false
set_option linter.unusedVariables false
open Go.RowKit Go.Maps

def pv (a b : Int) : Value := .agg #[.int .i64 a, .int .i64 b]
def kp (a b : Int) : Lit := .string (keyBytes [.int .i64 a, .int .i64 b])
/-- The row of a struct of two ints that may be a map's key. -/
structure PairT (P : Program) (k : TypeId) : Prop where
  law : Keyed P k
  ty : P.keyType k = true
  row : ∃ f0 f1 : Field, P.underlying k = some (.struct #[f0, f1]) ∧ (f0.name != "_") = true ∧ (f1.name != "_") = true ∧ P.underlying f0.type = some (.int .i64) ∧ P.underlying f1.type = some (.int .i64) ∧ f0.offset = 0 ∧ f1.offset = 1 ∧ P.cellsOf f0.type = 1 ∧ P.cellsOf f1.type = 1
  cells : P.cellsOf k = 2
  some_ : ∃ m, P.types.size = m + 1
section
variable {P : Program} {k : TypeId}
theorem PairT.lits (T : PairT P k) (m : Nat) {cs : List Value} {L : List Lit} (h : P.keyLits (m + 2) k cs = some L) : ∃ a b, (Lit.int .i64 a).wf = true ∧ (Lit.int .i64 b).wf = true ∧ cs = [.int .i64 a, .int .i64 b] ∧ L = [.int .i64 a, .int .i64 b] := by
  obtain ⟨f0, f1, hu, n0, n1, u0, u1, o0, o1, c0, c1⟩ := T.row
  unfold Program.keyLits at h
  simp only [hu] at h
  split at h
  · rename_i hc
    obtain ⟨hc, _⟩ := hc
    rw [T.cells] at hc
    match cs, hc with
    | [x, y], _ =>
      simp only [List.mapM_cons, List.mapM_nil, o0, o1, c0, c1, List.drop_zero, List.take_succ_cons, List.take_zero, List.drop_succ_cons] at h
      have key : ∀ (t : TypeId) (z : Value) (l : List Lit), P.underlying t = some (.int .i64) → P.keyLits (m + 1) t [z] = some l → ∃ n, (Lit.int .i64 n).wf = true ∧ z = .int .i64 n ∧ l = [.int .i64 n] := by
        intro t z l ht hz
        unfold Program.keyLits at hz
        cases z <;> simp only [ht] at hz <;> try (cases hz; done)
        rename_i q n
        split at hz
        · rename_i hw
          obtain ⟨rfl, hw⟩ := hw
          cases hz
          exact ⟨n, hw, rfl, rfl⟩
        · cases hz
      cases h1 : P.keyLits (m + 1) f0.type [x] with
      | none => rw [h1] at h; simp at h
      | some l0 =>
        cases h2 : P.keyLits (m + 1) f1.type [y] with
        | none => rw [h1, h2] at h; simp at h
        | some l1 =>
          obtain ⟨a, wa, rfl, rfl⟩ := key _ _ _ u0 h1
          obtain ⟨b, wb, rfl, rfl⟩ := key _ _ _ u1 h2
          rw [h1, h2] at h
          simp at h
          exact ⟨a, b, wa, wb, rfl, h.symm⟩
  · cases h
theorem PairT.wide (T : PairT P k) : (match P.underlying k with | some (.array _ _) | some (.struct _) => true | _ => false) = true := by
  obtain ⟨f0, f1, hu, _⟩ := T.row
  rw [hu]
theorem PairT.inv (T : PairT P k) {v : Value} {kl : Lit} (h : keyOf P k v = some kl) : ∃ a b, v = pv a b ∧ kl = kp a b ∧ (Lit.int .i64 a).wf = true ∧ (Lit.int .i64 b).wf = true := by
  obtain ⟨xs, L, rfl, hl, rfl⟩ := keyOf_top T.wide h
  obtain ⟨m, hm⟩ := T.some_
  rw [hm] at hl
  obtain ⟨a, b, wa, wb, hx, rfl⟩ := T.lits m hl
  exact ⟨a, b, by rw [pv]; congr 1; exact Array.toList_inj.1 hx, rfl, wa, wb⟩
theorem PairT.rd (T : PairT P k) {a b : Int} (wa : (Lit.int .i64 a).wf = true) (wb : (Lit.int .i64 b).wf = true) : keyOf P k (pv a b) = some (kp a b) := by
  obtain ⟨f0, f1, hu, n0, n1, u0, u1, o0, o1, c0, c1⟩ := T.row
  obtain ⟨m, hm⟩ := T.some_
  have hlit : P.keyLits (m + 2) k [.int .i64 a, .int .i64 b] = some [.int .i64 a, .int .i64 b] := by
    unfold Program.keyLits
    simp only [hu]
    rw [if_pos ⟨by rw [T.cells]; rfl, by simp at n0 n1; simp [n0, n1]⟩]
    simp only [List.mapM_cons, List.mapM_nil, o0, o1, c0, c1, List.drop_zero, List.take_succ_cons, List.take_zero, List.drop_succ_cons]
    have key : ∀ (t : TypeId) (n : Int), P.underlying t = some (.int .i64) → (Lit.int .i64 n).wf = true → P.keyLits (m + 1) t [.int .i64 n] = some [.int .i64 n] := by
      intro t n ht hw
      unfold Program.keyLits
      simp [ht, hw]
    rw [key _ _ u0 wa, key _ _ u1 wb]
    simp
  unfold keyOf
  simp only [hu]
  rw [if_pos (by rw [T.ty]; simp [Value.formed, pv, hu, T.cells]), hm]
  show Option.map _ (P.keyLits (m + 2) k [.int .i64 a, .int .i64 b]) = _
  rw [hlit]
  rfl
theorem PairT.isKey (T : PairT P k) {a b : Int} (wa : (Lit.int .i64 a).wf = true) (wb : (Lit.int .i64 b).wf = true) : WideAt.IsKeyLit (kp a b) := T.law.key (T.rd wa wb)
theorem PairT.inj (T : PairT P k) {a b c d : Int} (wa : (Lit.int .i64 a).wf = true) (wb : (Lit.int .i64 b).wf = true) (wc : (Lit.int .i64 c).wf = true) (wd : (Lit.int .i64 d).wf = true) (h : kp a b = kp c d) : a = c ∧ b = d := by
  have e := T.law.inj (T.rd wa wb) (h ▸ T.rd wc wd)
  simp [pv] at e
  exact e
theorem PairT.same (T : PairT P k) {a b c d : Int} (wa : (Lit.int .i64 a).wf = true) (wb : (Lit.int .i64 b).wf = true) (wc : (Lit.int .i64 c).wf = true) (wd : (Lit.int .i64 d).wf = true) : (kp a b).sameKey (kp c d) = (a == c && b == d) := by
  by_cases h : a = c ∧ b = d
  · obtain ⟨rfl, rfl⟩ := h
    rw [WideAt.sameKey_self (T.isKey wa wb)]
    simp
  · rw [sameKey_ne (fun e => h (T.inj wa wb wc wd e))]
    simp only [not_and] at h
    by_cases h1 : a = c
    · simp [h1, h h1]
    · simp [h1]
end
section
variable {H : Type} {P : Program} (w : World) {ops : Array Oper} {rest : List Oper} {o : Oper} {a : Act} {Q : Exit → Act → World → Prop}
/-- The step of a range over a map whose keys are pairs. -/
theorem wpList_next_pair (hg : o.guard = none) (it : Operand) (hop : o.op = Op.next it false) (k : TypeId) (T : PairT P k) (R : Value → Option (DataW H × List MemPlace)) (b r n : Nat) (D : DataW H) (left : Lit → Bool) (cnt : Nat)
    (hit : a.eval it = .pointer (some ⟨r, 0, none⟩)) (h : w.ranges P k R b r n D left cnt)
    (hDone : cnt = 0 → (∀ kl, left kl = false) → wpList P ops Q rest (a.put o.dst (.tuple #[.bool false])) w)
    (hMore : ∀ (x y : Int) (v : Value) (d : DataW H) (ps : List MemPlace) (w' : World) (cnt' : Nat), (Lit.int .i64 x).wf = true → (Lit.int .i64 y).wf = true → left (kp x y) = true → R v = some (d, ps) → (∀ zd, D.atKey (kp x y) zd = d) → w'.ranges P k R b r n D (fun z => left z && !z.sameKey (kp x y)) cnt' → cnt' < cnt →
      w.grownBy w' (some r) → w'.heap.size = w.heap.size → (Instr.entry (.pointer (some ⟨r, 0, none⟩))).run P w' = .ok (.tuple #[.agg #[.int .i64 x, .int .i64 y], v]) w' → wpList P ops Q rest (a.put o.dst (.tuple #[.bool true, .agg #[.int .i64 x, .int .i64 y], v])) w') :
    wpList P ops Q (o :: rest) a w := by
  refine wpList_next_ranges w hg it hop k T.law R (fun p : Int × Int => pv p.1 p.2) (fun v : Value => v) (fun key kl h => by obtain ⟨a, b, rfl, _⟩ := T.inv h; exact ⟨(a, b), rfl⟩) (fun v y _ => ⟨v, rfl⟩) b r n D left cnt hit h hDone ?_
  rintro ⟨x, y⟩ v kl ⟨d, ps⟩ w' cnt' hkey hlk hv hat hrg hlt hg hs hen
  obtain ⟨x', y', he, rfl, wx, wy⟩ := T.inv hkey
  simp only [pv, Value.agg.injEq, Array.mk.injEq, List.cons.injEq, Value.int.injEq, true_and, and_true] at he
  obtain ⟨rfl, rfl⟩ := he
  exact hMore _ _ _ _ _ _ _ wx wy hlk hv hat hrg hlt hg hs hen
end
end Go.Proofs.Ytaflkbemecjcpaa
