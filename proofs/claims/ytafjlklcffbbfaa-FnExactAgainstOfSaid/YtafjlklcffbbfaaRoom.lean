/- append of one number to a slice that has room: the same block. -/
import Derived.Test.YtafjlklcffbbfaaKit
namespace Go.Proofs.Ytafjlklcffbbfaa
set_option linter.unusedSimpArgs false
set_option linter.unusedVariables false
open Go.RowKit
section
variable {P : Program} {ops : Array Oper} {rest : List Oper} {o : Oper} {a : Act} {Q : Exit → Act → World → Prop}
theorem wpList_room_i (W : World) (T E : TypeId) (i : TypeInfo) (hgd : o.guard = none) (s x : Operand)
    (ho : o.op = .call { callee := .builtin .append, args := #[s, x], argTypes := #[T, T] })
    (ht : P.underlying T = some (.slice E)) (hi : P.info? E = some i) (hz : i.zero = some (.int .i64 0)) (hsize : i.size = 1) (hby : i.bytes = 8)
    (base g0 cap : Nat) (l : List Int) (hs : a.eval s = .slice (some ⟨g0, 0, none⟩) l.length cap) (hown : AppI W base E (.slice (some ⟨g0, 0, none⟩) l.length cap) l) (hroom : l.length + 1 ≤ cap)
    (p : Int) (g : Nat) (hx : a.eval x = .slice (some ⟨g, 0, none⟩) 1 1) (hgW : g = W.heap.size) (hlen : l.length ≤ 4194304) (hbase : base ≤ W.heap.size)
    (h : ∀ w', AppI w' base E (.slice (some ⟨g0, 0, none⟩) (l.length + 1) cap) (l ++ [p]) → (W.alloc (.cells #[.int .i64 p] E)).grownBy w' (some g0) → Below base W w' → wpList P ops Q rest (a.put o.dst (.slice (some ⟨g0, 0, none⟩) (l.length + 1) cap)) w') :
    wpList P ops Q (o :: rest) a (W.alloc (.cells #[.int .i64 p] E)) := by
  subst hgW
  have hown' := AppI.alloc hown (.cells #[.int .i64 p] E)
  have hnews : ∀ j u, (cellsI [p])[j]? = some u → (W.alloc (.cells #[.int .i64 p] E)).cell? ((⟨W.heap.size, 0, none⟩ : Addr).add j) = some u := by
    intro j u hj
    rw [addr_add, Nat.zero_add, World.cell?_alloc_new]
    simpa [cellsI] using hj
  have hm63 : l.length + 1 ≤ maxLen := by unfold maxLen; omega
  obtain ⟨v', w', hr, h2, h3, _⟩ := run_append_own (P := P) (W.alloc (.cells #[.int .i64 p] E)) base T o.type E i _ 1 8 ht hi hz hsize hby rfl (by decide) _ l.length (cellsI l) hown' ⟨W.heap.size, 0, none⟩ 1 1 (cellsI [p]) (by simp [cellsI]) hnews (cellsI_one _) hm63 (by omega) (by simp; omega)
  have e : v' = .slice (some ⟨g0, 0, none⟩) (l.length + 1) cap := by
    rcases hown'.2 with ⟨h', _⟩ | ⟨g', cap', cur, h', hb, hg, hnc, hcm, hcs, htk⟩
    · cases h'
    · injection h' with h1' h2' h3'
      injection h1' with h1'
      injection h1' with h1' _ _
      subst h1' h3'
      have hr2 := run_append_room (P := P) (W.alloc (.cells #[.int .i64 p] E)) T o.type E i ht hi g0 l.length cap cur hg ⟨W.heap.size, 0, none⟩ 1 1 (cellsI [p]) (by rw [hsize]; simp [cellsI]) hnews (cellsI_one _) hroom (by rw [hsize, hcs]; simp [cellsI]; omega)
      rw [hr] at hr2
      injection hr2
  subst e
  refine wpList_plain hgd fun _ hK => ?_
  unfold Oper.wp execOp
  simp only [ho, resolve, invoke, builtin, Sem.run_bind, Sem.run_pure, Result.andThen_ok, List.map_toArray, List.map_cons, List.map_nil, hs, hx, hr]
  refine hK _ _ (h w' (by unfold AppI; rw [List.length_append]; simpa [cellsI] using h2) h3 ?_)
  refine Below.grown (((Below.refl _ _).alloc hbase _)) h3 (by simp; omega) (fun k hk => ?_)
  exact (hown.lt k hk).1
end
end Go.Proofs.Ytafjlklcffbbfaa
