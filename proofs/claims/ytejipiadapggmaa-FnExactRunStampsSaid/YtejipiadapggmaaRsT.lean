/- RunStamps: the channel that has all operations. -/
import Derived.Test.YtejipiadapggmaaRsI
import Derived.Deep.Cut
namespace Go.Proofs.Ytejipiadapggmaa
set_option linter.unusedSimpArgs false
set_option linter.unusedVariables false
open Go.RowKit Go.Conc
def opV (o : O3) : Value := .agg #[.int .i64 o.tx, .int .i64 o.kind, .int .i64 o.item]
def opVs (l : List O3) : Array Value := (l.map opV).toArray
theorem opVs_push {l : List O3} {k : Nat} (hk : k < l.length) : (opVs (l.take k)).push (.agg #[.int .i64 l[k].tx, .int .i64 l[k].kind, .int .i64 l[k].item]) = opVs (l.take (k + 1)) := by
  unfold opVs; rw [List.take_succ_eq_append_getElem hk, List.map_append]; simp [opV]
theorem opVs_size (l : List O3) : (opVs l).size = l.length := by simp [opVs]
set_option maxRecDepth 8192 in
set_option maxHeartbeats 200000 in
theorem impl_stream_any (A : Option Addr) (c : Nat) (l : List O3) (w : World) (hl : l.length ≤ 12) (hR : RdO w w.heap.size A l) :
    Calls Try.prog 43 #[.slice A l.length c] w fun e w' => (∃ ch n m, e = .returned (.chan (some ch)) ∧ w.heap.size ≤ ch ∧ w'.heap[ch]? = some (.chan l.length (opVs l) true n m false)) ∧ Below w.heap.size w w' := by
  obtain ⟨i0, hi0, hz0, hz1, hz2⟩ := info_parts info_O
  have hmk : (Instr.makeChan 94 (.int .i64 (l.length : Int))).run Try.prog w = .ok (.chan (some w.heap.size)) (w.alloc (.chan l.length #[] false 0 0 false)) :=
    run_makeChan Try.underlying94 hi0 .i64 l.length (by omega) (by rw [hz2]; omega)
  go_enter Try.func43, Try.ntmps43
  go_wp2_with fail
  clear hmk
  go_loopw [5, 11] (fun _ v11 wr => ∃ k : Nat, k ≤ l.length ∧ v11 = .int .i64 k ∧ wr.heap[w.heap.size]? = some (.chan l.length (opVs (l.take k)) false k 0 false) ∧ Below w.heap.size w wr) (fun _ v11 _ => l.length - (intOf v11).toNat)
  case atStart => exact ⟨0, by omega, rfl, by rw [heap_alloc_new]; rfl, by (repeat' (first | (with_reducible exact Below.refl _ _) | (with_reducible assumption) | (with_reducible refine Below.al ?_ _) | (with_reducible refine Below.drew ?_) | (with_reducible refine Below.drN ?_ _) | (with_reducible refine Below.via (by with_reducible assumption) ?_) | (with_reducible refine Below.setc ?_ ?_ _) | (with_reducible exact Nat.le_refl _) | (simp; done) | (simp; omega)))⟩
  case round =>
    obtain ⟨k, hk, rfl, hC, hbw⟩ := hrel
    have HB := Lib.hid hbw
    have HC := Lib.hid hC
    clear hC hbw
    by_cases hlt : k < l.length
    · obtain ⟨b, off, rfl, hb, h0, h1, h2⟩ := (hR.on HB.out).at_ hlt
      have hroom : (opVs (l.take k)).size < l.length := by rw [opVs_size]; simp; omega
      have hHC : (wr.alloc (.cells #[.int .i64 l[k].tx, .int .i64 l[k].kind, .int .i64 l[k].item] 60)).heap[w.heap.size]? = some (.chan l.length (opVs (l.take k)) false k 0 false) := (Below.heap_alloc _ _ _ (lt_of_block HC.out)).trans HC.out
      have HHC := Lib.hid hHC
      have HRM := Lib.hid hroom
      clear hHC hroom
      go_upto_region 5 with fail
      refine wp_send3 (id := 5) (v0 := .chan (some w.heap.size)) (v1 := .agg #[.int .i64 l[k].tx, .int .i64 l[k].kind, .int .i64 l[k].item]) (v := .agg #[.int .i64 l[k].tx, .int .i64 l[k].kind, .int .i64 l[k].item]) (z' := .tuple #[]) rfl rfl rfl ?_ ?_ ?_ HHC.out HRM.out ?_
      · go_simp
      · go_simp
      · go_simp; rfl
      go_wp2_with fail
      refine ⟨⟨k + 1, by omega, by go_num, ?_, below_setChan (by have hbw := HB.out; (repeat' (first | (with_reducible exact Below.refl _ _) | (with_reducible assumption) | (with_reducible refine Below.al ?_ _) | (with_reducible refine Below.drew ?_) | (with_reducible refine Below.drN ?_ _) | (with_reducible refine Below.via (by with_reducible assumption) ?_) | (with_reducible refine Below.setc ?_ ?_ _) | (with_reducible exact Nat.le_refl _) | (simp; done) | (simp; omega)))) (Nat.le_refl _) _ _ _ _ _ _⟩, by simp [intOf]; omega⟩
      rw [heap_setChan _ _ _ _ _ _ _ _ (lt_of_block HHC.out), opVs_push hlt]
    · have hk' : k = l.length := by omega
      have HK := Lib.hid hk'; clear hk'
      have hC := HC.out
      have hcl := fun (ats : Array TypeId) (ty : TypeId) => run_close_open (P := Try.prog) ats ty hC
      go_wp2_with fail
      change bodyPost _ _ _ _ _ (wr.setChan w.heap.size l.length (opVs (l.take k)) true k 0 false)
      go_ret
      refine ⟨⟨w.heap.size, k, 0, rfl, Nat.le_refl _, ?_⟩, below_setChan HB.out (Nat.le_refl _) _ _ _ _ _ _⟩
      rw [heap_setChan _ _ _ _ _ _ _ _ (lt_of_block HC.out), HK.out, List.take_length]
end Go.Proofs.Ytejipiadapggmaa
