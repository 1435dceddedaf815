/- IsSerializable: the permutations, the iterator. -/
import Derived.Test.YtaflkbemecjcpaaSeJ
namespace Go.Proofs.Ytaflkbemecjcpaa
set_option linter.unusedSimpArgs false
set_option linter.unusedVariables false
open Go.RowKit Go.Shelf
attribute [local go_sem] Oper.semAt_some
set_option maxRecDepth 100000 in
set_option maxHeartbeats 4000000 in
theorem impl_perms1_in {f : Nat → Nat → Bool} {n₁ l Bl : Nat} {A : Option Addr} {cL : Nat} {L : List Nat} {J : World → Nat → Prop} {oB : World → Option Nat} (H : SeCall f n₁ l Bl A cL L J oB) (hL4 : L.length ≤ 4) (hL3 : ∀ x ∈ L, x ≤ 3) (W : World) (hJ : J W 0) :
    CallsIn Fence.wide 0 Try.prog 109 #[.func (.yield l) #[] #[], .pointer (some ⟨Bl, 0, none⟩)] W fun e W' => (∃ v, e = .returned v) ∧ J W' (perN f L L.length []) := by
  obtain ⟨i0, hi0, hz0, hz1, hz2⟩ := info_parts info_I
  obtain ⟨hBl, hxl, hRL⟩ := H.lst W 0 hJ
  have hn1 := H.n1 W 0 hJ
  have hol := H.lt W 0 hJ
  have hBlW : Bl < W.heap.size := lt_of_block hxl
  have y2 : W.cell? ⟨Bl, 0, none⟩ = some (.slice A L.length cL) := cell_of_row W Bl 0 _ _ (0, 0) hxl
  have H1 := Lib.hid (show i0.bytes * L.length ≤ 281474976710656 by rw [hz2]; omega)
  have H2 := Lib.hid (show L.length ≤ maxLen by unfold maxLen; omega)
  refine callsIn_of_wp Try.func109 rfl trivial ?_ rfl
  simp only [Try.ntmps109, List.size_toArray, List.length_cons, List.length_nil, Nat.reduceAdd, Nat.reduceSub, Array.replicate_succ, Array.replicate_zero, List.push_toArray, List.append_toArray, List.nil_append, List.cons_append]
  gi_wp2_with (gi_at_make; refine wpListIn_make_own _ rfl _ _ 24 rfl n₁ 3 i0 _ 1 Try.underlying24 hi0 hz0 hz1 .i64 .i64 _ L.length rfl rfl rfl H1.out H2.out (by simp; omega) ?_; intro w2 hO2 hg2)
  have hz := hg2.size
  rw [World.size_alloc] at hz hO2
  have hgl := (hO2.lt (W.heap.size + 1) rfl).2
  have hJa := H.step W _ 0 none hJ (World.grownBy_alloc W (.cells #[.func (.yield l) #[] #[]] 106) none) (fun k e => by cases e)
  have hJ2 := H.step _ w2 0 none hJa.1 hg2 (fun k e => by cases e)
  have hJb := H.step w2 _ 0 none hJ2.1 (World.grownBy_alloc w2 (.cells #[.slice (some ⟨W.heap.size + 1, 0, none⟩) 0 L.length] 24) none) (fun k e => by cases e)
  have hJc := H.step _ _ 0 none hJb.1 (World.grownBy_alloc (w2.alloc (.cells #[.slice (some ⟨W.heap.size + 1, 0, none⟩) 0 L.length] 24)) (.cells #[seClo w2.heap.size Bl W.heap.size (w2.heap.size + 1)] 57) none) (fun k e => by cases e)
  have hob : oB ((w2.alloc (.cells #[.slice (some ⟨W.heap.size + 1, 0, none⟩) 0 L.length] 24)).alloc (.cells #[seClo w2.heap.size Bl W.heap.size (w2.heap.size + 1)] 57)) = oB W := by rw [hJc.2, hJb.2, hJ2.2, hJa.2]
  have hnb : ∀ b, W.heap.size ≤ b → oB W ≠ some b := fun b hb e => by have := hol b e; omega
  have hS : PerAt ((w2.alloc (.cells #[.slice (some ⟨W.heap.size + 1, 0, none⟩) 0 L.length] 24)).alloc (.cells #[seClo w2.heap.size Bl W.heap.size (w2.heap.size + 1)] 57)) n₁ l w2.heap.size Bl W.heap.size (w2.heap.size + 1) (oB W) (some ⟨W.heap.size + 1, 0, none⟩) 0 L.length [] := by
    refine ⟨heap2a w2 _ _, ?_, heap2b w2 _ _, rfl, ⟨_, rfl⟩, ?_, ⟨hnb _ (by omega), hnb _ (by omega), hnb _ (by omega)⟩, fun k e => ?_, ⟨?_, ?_, ?_⟩, ⟨by omega, by omega, by omega⟩, ⟨by omega, by omega, by omega⟩⟩
    · have h0 : (W.alloc (.cells #[.func (.yield l) #[] #[]] 106)).heap[W.heap.size]? = some (.cells #[.func (.yield l) #[] #[]] 106 (0, 0)) := heap_alloc_new W _
      have h1 := (hg2.block W.heap.size (by simp) (by simp)).trans h0
      exact (Below.heap_alloc _ _ _ (by simp; omega)).trans ((Below.heap_alloc _ _ _ (by omega)).trans h1)
    · exact row_kept (row_kept hO2 (fun k hk => Below.heap_alloc _ _ k hk)) (fun k hk => Below.heap_alloc _ _ k hk)
    · simp [Value.ownBlock] at e
      exact hnb k (by omega)
    · simp [Value.ownBlock]; omega
    · simp [Value.ownBlock]
    · simp [Value.ownBlock]; omega
  refine ⟨trivial, rfl, ?_⟩
  refine (impl_from_in H hL4 hL3 w2.heap.size W.heap.size (w2.heap.size + 1) L.length [] (some ⟨W.heap.size + 1, 0, none⟩) 0 L.length _ 0 (by simp) (by have : 4 ^ L.length ≤ 4 ^ 4 := Nat.pow_le_pow_right (by omega) hL4; omega) (fun t ht => by simp at ht) (by rw [hob]; exact hS) hJc.1).mono ?_
  rintro e w5 ⟨rfl, hJ5, _⟩
  gi_wp2
  go_end0
  rw [Nat.zero_add] at hJ5
  exact ⟨⟨_, rfl⟩, hJ5⟩
theorem impl_perms_any (A : Option Addr) (n c : Nat) (w : World) :
    Calls Try.prog 104 #[.slice A n c] w fun e w' => e = .returned (.func (.func 109) #[] #[.pointer (some ⟨w.heap.size, 0, none⟩)]) ∧ w' = w.alloc (.cells #[.slice A n c] 24) := by
  go_enter Try.func104, Try.ntmps104
  go_wp2
  go_ret
  exact ⟨rfl, rfl⟩
end Go.Proofs.Ytaflkbemecjcpaa
