/- The first shortest circle: the program's circle, and CycleOf. -/
import Derived.Test.YtaflkbemecjcpaaCyJ
namespace Go.Proofs.Ytaflkbemecjcpaa
set_option linter.unusedSimpArgs false
set_option linter.unusedVariables false
open Go.RowKit
theorem cirL_eq (f : Nat → Nat → Bool) : cirL f = loopU (fun b t => dfs f 4 [] b t) (List.range 4) [] := rfl
theorem neq_nilI (A : Option Addr) (l c : Nat) (w : World) : (binOp .neq 24 (.slice A l c) (.slice none 0 0)).run Try.prog w = .ok (.bool (!A.isNone)) w := by
  simp only [binOp]
  simp [run_equal_slice_nil w 24 3 A l c Try.underlying24]
set_option maxHeartbeats 400000 in
theorem Clip_ci_any (A : Option Addr) (n c : Nat) (w : World) (hn : n ≤ c) :
    Calls Try.prog 90 #[.slice A n c] w fun e w' => e = .returned (.slice A n n) ∧ w = w' := by
  go_enter Try.func90, Try.ntmps90
  go_wp2
  go_ret
  exact ⟨rfl, rfl⟩
set_option maxRecDepth 8192 in
set_option maxHeartbeats 4000000 in
theorem impl_circle_any (f : Nat → Nat → Bool) (A : Option Addr) (c : Nat) (w : World) (hR : RdI w w.heap.size A (mk4 f)) :
    Calls Try.prog 65 #[.slice A 4 c] w fun e w' => (∃ v, e = .returned (.tuple #[v, .bool (decide (0 < (cirL f).length))]) ∧ OwnI w' w.heap.size 3 v (ci (cirL f))) ∧ Below w.heap.size w w' := by
  go_enter Try.func65, Try.ntmps65
  go_wp2_with fail
  obtain ⟨bp, ebp⟩ : ∃ bp, w.heap.size + 1 + 1 + 1 = bp := ⟨_, rfl⟩
  obtain ⟨bf, ebf⟩ : ∃ bf, w.heap.size + 1 + 1 + 1 + 1 = bf := ⟨_, rfl⟩
  obtain ⟨bb, ebb⟩ : ∃ bb, w.heap.size + 1 = bb := ⟨_, rfl⟩
  obtain ⟨bg, ebg⟩ : ∃ bg, w.heap.size = bg := ⟨_, rfl⟩
  obtain ⟨w0, hw0⟩ : ∃ w0, w0 = (((((w.alloc (Obj.cells #[.slice A 4 c] 24)).alloc (Obj.cells #[.slice none 0 0] 24)).alloc (Obj.cells #[] 3)).alloc (Obj.cells #[.slice (some ⟨w.heap.size + 1 + 1, 0, none⟩) 0 0] 24)).alloc (Obj.cells #[.func (Fn.func 86) #[] #[.pointer (some ⟨w.heap.size + 1 + 1 + 1, 0, none⟩), .pointer (some ⟨w.heap.size, 0, none⟩), .pointer (some ⟨w.heap.size + 1, 0, none⟩), .pointer (some ⟨w.heap.size + 1 + 1 + 1 + 1, 0, none⟩)]] 84)) := ⟨_, rfl⟩
  have hB0 : Below w.heap.size w w0 := by rw [hw0]; (repeat' (first | (with_reducible exact Below.refl _ _) | (with_reducible assumption) | (with_reducible refine Below.al ?_ _) | (with_reducible refine Below.drew ?_) | (with_reducible refine Below.drN ?_ _) | (with_reducible refine Below.via (by with_reducible assumption) ?_) | (with_reducible refine Below.setc ?_ ?_ _) | (with_reducible exact Nat.le_refl _) | (simp; done) | (simp; omega)))
  have hS0 : CirAt w0 w.heap.size bp bg bb bf A c f (some ⟨w.heap.size + 1 + 1, 0, none⟩) 0 0 [] (.slice none 0 0) [] := by
    have hl : ∀ (W : World) (o o' : Obj) (k : Nat), W.heap[k]? = some o → (W.alloc o').heap[k]? = some o := fun W o o' k h => (Below.heap_alloc _ _ _ (Array.getElem?_eq_some_iff.1 h).1).trans h
    refine ⟨?_, ?_, ?_, ?_, rfl, ?_, OwnI.nil_, fun _ => rfl, hR.below hB0 (Nat.le_refl _), fun k e1 e2 => by simp [Value.ownBlock] at e2, ⟨?_, ?_, ?_, ?_⟩, ⟨?_, ?_, ?_, ?_⟩, by omega, by omega⟩
    all_goals first | (simp [Value.ownBlock]; omega) | (simp [Value.ownBlock]; done) | skip
    · rw [hw0]
      refine hl _ _ _ _ ?_
      rw [show bp = (((w.alloc (Obj.cells #[.slice A 4 c] 24)).alloc (Obj.cells #[.slice none 0 0] 24)).alloc (Obj.cells #[] 3)).heap.size by simp; omega]
      exact heap_alloc_new _ _
    · rw [hw0]
      refine hl _ _ _ _ (hl _ _ _ _ (hl _ _ _ _ (hl _ _ _ _ ?_)))
      rw [← ebg]
      exact heap_alloc_new _ _
    · rw [hw0]
      refine hl _ _ _ _ (hl _ _ _ _ (hl _ _ _ _ ?_))
      rw [show bb = (w.alloc (Obj.cells #[.slice A 4 c] 24)).heap.size by simp; omega]
      exact heap_alloc_new _ _
    · have key : ∀ (W : World) (v : Value), bf = W.heap.size → (W.alloc (Obj.cells #[v] 84)).heap[bf]? = some (.cells #[v] 84 (0, 0)) := fun W v e => by rw [e]; exact heap_alloc_new _ _
      rw [hw0, ebf, ebp, ebb, ebg]
      exact key _ _ (by simp; omega)
    · rw [hw0]
      have h := ((AppI.made (w := (w.alloc (Obj.cells #[.slice A 4 c] 24)).alloc (Obj.cells #[.slice none 0 0] 24)) (base := w.heap.size) (E := 3) (by simp; omega) #[] 0 (by simp [maxLen]) rfl).alloc (Obj.cells #[.slice (some ⟨w.heap.size + 1 + 1, 0, none⟩) 0 0] 24))
      rw [World.size_alloc, World.size_alloc] at h
      exact h.alloc _
  have hb : bp < w0.heap.size := lt_of_block hS0.xp
  rw [← hw0, ebf, ebp, ebb, ebg]
  clear hw0 ebf ebp ebb hb
  subst ebg
  go_loopw [7, 12] (fun _ v12 wr => ∃ (t : Nat) (Ap : Option Addr) (cp : Nat) (vb : Value), t ≤ 4 ∧ v12 = .int .i64 t ∧ CirAt wr w.heap.size bp w.heap.size bb bf A c f Ap 0 cp [] vb (loopU (fun b t => dfs f 4 [] b t) (List.range t) []) ∧ Below w.heap.size w wr) (fun _ v12 _ => 4 - (intOf v12).toNat)
  case atStart => exact ⟨0, _, _, _, by omega, rfl, hS0, hB0⟩
  case round =>
    obtain ⟨t, Ap, cp, vb, ht, rfl, hS, hB⟩ := hrel
    clear hS0 hB0
    have HS := Lib.hid hS
    have HB := Lib.hid hB
    have hBr : w.heap.size ≤ wr.heap.size := hB.size
    have x4 : wr.cell? ⟨bf, 0, none⟩ = some (cloV bp w.heap.size bb bf) := cell_of_row wr bf 0 _ _ (0, 0) hS.xf
    clear hS hB
    by_cases hlt : t < 4
    · have hlt' : (t : Int) < 4 := by omega
      have HN := Lib.hid (loopU_next (fun b t => dfs f 4 [] b t) t [])
      go_wp2_with fail
      refine (impl_circle1_any f w.heap.size bp w.heap.size bb bf A c 4 [] t Ap 0 cp vb _ wr (by decide) (by simp) (fun x hx => by simp at hx) hlt rfl hBr HS.out).mono ?_
      rintro e w5 ⟨⟨v, rfl⟩, ⟨A5, c5, vb5, s5⟩, b5⟩
      go_wp2_with fail
      exact ⟨⟨t + 1, A5, c5, vb5, by omega, by go_num, by rw [HN.out]; exact s5, HB.out.trans b5⟩, by simp [intOf]; omega⟩
    · have ht4 : t = 4 := by omega
      subst ht4
      have HBO := Lib.hid HS.out.fb
      have hnilv := HS.out.nil
      rw [← cirL_eq] at hnilv HBO
      obtain ⟨Ab, cb, rfl, hcc, _, hAb⟩ := HBO.out.reads
      have x3 : wr.cell? ⟨bb, 0, none⟩ = some (.slice Ab (ci (cirL f)).length cb) := cell_of_row wr bb 0 _ _ (0, 0) HS.out.xb
      have l3 := lt_of_block HS.out.xb
      have hres : (!Ab.isNone) = decide (0 < (cirL f).length) := by
        by_cases hr : cirL f = []
        · have h := hnilv hr
          injection h with h1 _ _
          rw [h1, hr]; rfl
        · obtain ⟨g, rfl, _⟩ := hAb (by intro e; apply hr; have := congrArg List.length e; rw [ci_len] at this; exact List.eq_nil_of_length_eq_zero this)
          have := List.length_pos_iff.2 hr
          simp [this]
      have HRE := Lib.hid hres
      have hneq := fun W => neq_nilI Ab (ci (cirL f)).length cb W
      clear hres hnilv hAb
      have hc1 := hcc.1
      go_wp2_with fail
      ((first | (with_reducible refine wp_region_from (by with_reducible assumption) follows (by kernel_rfl) ?_) | (refine wp_region_aft follows (by kernel_rfl) ?_)); (repeat (go_big_quiet_step ((go_at_call 90; exact aft_same (Clip_ci_any Ab _ cb _ hc1))))); refine wpQuiet_nil ?_; intro _ hw'; obtain ⟨⟨w1, hb⟩, rfl⟩ := hw'; (try dsimp only); first | (replace hb := Below.via hb (by with_reducible assumption); (try clear hbc hbf hbz); obtain ⟨hbc, hbf, hbz⟩ := bcell hb) | (obtain ⟨hbc, hbf, hbz⟩ := bcell hb))
      go_wp2_with fail
      go_ret2
      have hsome : Ab.isSome = decide (0 < (cirL f).length) := by rw [← HRE.out]; cases Ab <;> rfl
      refine ⟨⟨.slice Ab (ci (cirL f)).length (ci (cirL f)).length, ?_, (HBO.out.cut rfl).on hb⟩, Below.via hb HB.out⟩
      rw [← hsome]
      rfl
/-- CycleOf's values. -/
def cyF (l : List O3) : Nat → Nat → Bool := tabOf (eTo (comL l) (comL l).length)
noncomputable def cycV (l : List O3) : List Int := if tt (ValidP l) = true then ci (cycL (cyF l)) else []
noncomputable def cycOk (l : List O3) : Bool := decide (0 < (cycV l).length)
theorem cycL_le (f : Nat → Nat → Bool) : (cycL f).length ≤ 4 := by
  have : ∀ (g : Nat → List Nat) (l : List Nat) (n : Nat), (∀ u ∈ l, (g u).length ≤ n) → (firstU g l).length ≤ n := by
    intro g l n
    induction l with
    | nil => intro _; simp [firstU]
    | cons x r ih =>
      intro hg
      by_cases e : g x = []
      · rw [firstU_nil _ e]; exact ih fun u hu => hg u (by simp [hu])
      · rw [firstU_hit _ e]; exact hg x (by simp)
  refine this _ _ _ fun n hn => this _ _ _ fun t ht => cycF_le4 f n t ?_ ?_
  · simp at hn; omega
  · simp at hn; omega
theorem cycV_len (l : List O3) (hl : l.length ≤ 1048576) : (cycV l).length ≤ 1048576 := by
  unfold cycV; split
  · rw [ci_len]; have := cycL_le (cyF l); omega
  · simp
theorem gra_cyF {l : List O3} (hv : ValidP l) : graL (comL l) = mk4 (cyF l) := by
  unfold graL cyF
  refine (tabOf_mk4 (fun a => eTo_irr (fun j hj => ?_) _ a)).symm
  have h := comL_all hv _ (List.getElem_mem hj)
  simp [validB, inR] at h
  omega
set_option maxHeartbeats 400000 in
theorem spec_CycleOf_any (A : Option Addr) (c : Nat) (l : List O3) (w : World) (hl : l.length ≤ 1048576) (hc : l.length ≤ c) (hR : RdO w w.heap.size A l) :
    Calls Try.prog 33 #[.slice A l.length c] w fun e w' => (∃ v, e = .returned (.tuple #[v, .bool (cycOk l)]) ∧ OwnI w' w.heap.size 3 v (cycV l)) ∧ Below w.heap.size w w' := by
  have HM := Lib.hid (show l.length ≤ maxLen by unfold maxLen; omega)
  rcases Bool.eq_false_or_eq_true (tt (ValidP l)) with hv | hv
  all_goals have HV := Lib.hid hv
  · have HP := Lib.hid (tt_eq.1 hv)
    clear hv
    have h16 := HP.out.1
    have hcl := comL_len l
    go_enter Try.func33, Try.ntmps33
    go_wp2_with (first | (go_at_call 37; refine (spec_validSchedule_any _ _ _ _ HM.out hR).mono ?_; rintro e w1 ⟨rfl, hb1⟩; rw [HV.out]) | (go_at_call 39; refine (spec_committed_any _ _ _ _ hl (hR.on hb1)).mono ?_; rintro e w2 ⟨⟨v, rfl, hO2⟩, hb2⟩; obtain ⟨A9, c9, rfl, hO9⟩ := hO2.reads) | (go_at_call 38; refine (spec_graph_any _ _ _ _ (by omega) (comL_all HP.out) hO9.2.1).mono ?_; rintro e w3 ⟨⟨v, rfl, hO⟩, hb3⟩; rw [gra_cyF HP.out] at hO; obtain ⟨A8, c8, rfl, hO8⟩ := hO.reads; rw [mk4_len]) | (go_at_call 64; refine (spec_cycle_any (cyF l) _ _ _ hO8.2.1).mono ?_; rintro e w4 ⟨⟨v, rfl, hO4⟩, hb4⟩; obtain ⟨A7, c7, rfl, hO7⟩ := hO4.reads))
    go_ret2
    have e : cycV l = ci (cycL (cyF l)) := by rw [cycV, HV.out, if_pos rfl]
    refine ⟨⟨_, ?_, by rw [e]; exact OwnG.low hO4 (Nat.le_trans hb1.size (Nat.le_trans hb2.size hb3.size))⟩, by (repeat' (first | (with_reducible exact Below.refl _ _) | (with_reducible assumption) | (with_reducible refine Below.al ?_ _) | (with_reducible refine Below.drew ?_) | (with_reducible refine Below.drN ?_ _) | (with_reducible refine Below.via (by with_reducible assumption) ?_) | (with_reducible refine Below.setc ?_ ?_ _) | (with_reducible exact Nat.le_refl _) | (simp; done) | (simp; omega)))⟩
    rw [cycOk, e]
    simp
  · clear hv
    go_enter Try.func33, Try.ntmps33
    go_wp2_with (go_at_call 37; refine (spec_validSchedule_any _ _ _ _ HM.out hR).mono ?_; rintro e w1 ⟨rfl, hb1⟩; rw [HV.out])
    go_ret2
    have e : cycV l = [] := by rw [cycV, HV.out]; rfl
    exact ⟨⟨_, by rw [cycOk, e]; rfl, by rw [e]; exact OwnI.nil_⟩, by (repeat' (first | (with_reducible exact Below.refl _ _) | (with_reducible assumption) | (with_reducible refine Below.al ?_ _) | (with_reducible refine Below.drew ?_) | (with_reducible refine Below.drN ?_ _) | (with_reducible refine Below.via (by with_reducible assumption) ?_) | (with_reducible refine Below.setc ?_ ?_ _) | (with_reducible exact Nat.le_refl _) | (simp; done) | (simp; omega)))⟩
set_option maxHeartbeats 400000 in
theorem impl_CycleOf_any (A : Option Addr) (c : Nat) (l : List O3) (w : World) (hl : l.length ≤ 1048576) (hc : l.length ≤ c) (hR : RdO w w.heap.size A l) :
    Calls Try.prog 34 #[.slice A l.length c] w fun e w' => (∃ v, e = .returned (.tuple #[v, .bool (cycOk l)]) ∧ OwnI w' w.heap.size 3 v (cycV l)) ∧ Below w.heap.size w w' := by
  have HM := Lib.hid (show l.length ≤ maxLen by unfold maxLen; omega)
  rcases Bool.eq_false_or_eq_true (tt (ValidP l)) with hv | hv
  all_goals have HV := Lib.hid hv
  · have HP := Lib.hid (tt_eq.1 hv)
    clear hv
    go_enter Try.func34, Try.ntmps34
    go_wp2_with (first | (go_at_call 21; refine (impl_ValidSchedule_any _ _ _ _ HM.out hc hR).mono ?_; rintro e w1 ⟨rfl, hb1⟩; rw [HV.out]) | (go_at_call 41; refine (impl_graphOf_any _ _ _ _ HP.out (hR.on hb1)).mono ?_; rintro e w2 ⟨⟨v, rfl, hO⟩, hb2⟩; rw [gra_cyF HP.out] at hO; obtain ⟨A8, c8, rfl, hO8⟩ := hO.reads; rw [mk4_len]) | (go_at_call 65; refine (impl_circle_any (cyF l) _ _ _ hO8.2.1).mono ?_; rintro e w4 ⟨⟨v, rfl, hO4⟩, hb4⟩))
    go_ret2
    have e : cycV l = ci (cycL (cyF l)) := by rw [cycV, HV.out, if_pos rfl]
    have e2 : cirL (cyF l) = cycL (cyF l) := cir_cyc _
    refine ⟨⟨_, ?_, by rw [e, ← e2]; exact OwnG.low hO4 (Nat.le_trans hb1.size hb2.size)⟩, by (repeat' (first | (with_reducible exact Below.refl _ _) | (with_reducible assumption) | (with_reducible refine Below.al ?_ _) | (with_reducible refine Below.drew ?_) | (with_reducible refine Below.drN ?_ _) | (with_reducible refine Below.via (by with_reducible assumption) ?_) | (with_reducible refine Below.setc ?_ ?_ _) | (with_reducible exact Nat.le_refl _) | (simp; done) | (simp; omega)))⟩
    rw [cycOk, e, ← e2, ci_len]
    rfl
  · clear hv
    go_enter Try.func34, Try.ntmps34
    go_wp2_with (go_at_call 21; refine (impl_ValidSchedule_any _ _ _ _ HM.out hc hR).mono ?_; rintro e w1 ⟨rfl, hb1⟩; rw [HV.out])
    go_ret2
    have e : cycV l = [] := by rw [cycV, HV.out]; rfl
    exact ⟨⟨_, by rw [cycOk, e]; rfl, by rw [e]; exact OwnI.nil_⟩, by (repeat' (first | (with_reducible exact Below.refl _ _) | (with_reducible assumption) | (with_reducible refine Below.al ?_ _) | (with_reducible refine Below.drew ?_) | (with_reducible refine Below.drN ?_ _) | (with_reducible refine Below.via (by with_reducible assumption) ?_) | (with_reducible refine Below.setc ?_ ?_ _) | (with_reducible exact Nat.le_refl _) | (simp; done) | (simp; omega)))⟩
end Go.Proofs.Ytaflkbemecjcpaa
