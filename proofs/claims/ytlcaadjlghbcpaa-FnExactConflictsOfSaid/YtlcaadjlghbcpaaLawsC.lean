/- Contracts of the laws' own small functions on lists of pairs: comparisons and marks. -/
import Derived.Test.YtlcaadjlghbcpaaCfl
import Derived.Test.YtlcaadjlghbcpaaLaws
namespace Go.Proofs.Ytlcaadjlghbcpaa
set_option linter.unusedSimpArgs false
set_option linter.unusedVariables false
open Go.RowKit

/-- A list of lists of two numbers, each in a block of its own; what the list j holds, f tells. -/
structure CRf (w : World) (B : Nat) (v : Value) (rn : List (Nat × Int × Int)) (f : Nat → List Int) : Prop where
  own : OwnG w B 38 v rn.length (rn.map rowV)
  row : ∀ j (h : j < rn.length), B ≤ rn[j].1 ∧ v.ownBlock ≠ some rn[j].1 ∧ (f j).length = 2 ∧ OwnI w B 3 (.slice (some ⟨rn[j].1, 0, none⟩) 2 2) (f j)
  inj : ∀ i j (hi : i < rn.length) (hj : j < rn.length), i ≠ j → rn[i].1 ≠ rn[j].1
section
variable {w w1 : World} {B : Nat} {v : Value} {rn : List (Nat × Int × Int)} {f : Nat → List Int}
theorem CRg.toF (h : CRg w B v rn) : ∃ f, CRf w B v rn f := by
  refine ⟨fun j => if h : j < rn.length then [rn[j].2.1, rn[j].2.2] else [0, 0], h.own, fun j hj => ?_, fun i j hi hj hne => ?_⟩
  · obtain ⟨h1, h2, h3⟩ := h.row rn[j] (List.getElem_mem hj)
    refine ⟨h1, h2, by simp [hj], ?_⟩
    simp only [hj, dite_true]
    exact .inr ⟨rn[j].1, 2, _, rfl, h1, h3, Nat.le_refl _, by simp [maxLen], rfl⟩
  · have hp := List.pairwise_iff_getElem.1 h.srt
    rcases Nat.lt_or_ge i j with h1 | h1
    · have := hp i j hi hj h1; omega
    · have := hp j i hj hi (by omega); omega
theorem CRf.on (h : CRf w B v rn f) (hb : Below w.heap.size w w1) : CRf w1 B v rn f :=
  ⟨h.own.on hb, fun j hj => ⟨(h.row j hj).1, (h.row j hj).2.1, (h.row j hj).2.2.1, (h.row j hj).2.2.2.on hb⟩, h.inj⟩
theorem CRg.far_ {x : Nat} (h : CRg w B v rn) (hg : w.grownBy w1 (some x)) (hx : x < B) : CRg w1 B v rn :=
  ⟨far_of h.own hg (fun k hk => by have := (h.own.own_lt k hk).1; simp; omega), fun p hp => ⟨(h.row p hp).1, (h.row p hp).2.1, (hg.block _ (lt_of_block (h.row p hp).2.2) (by have := (h.row p hp).1; simp; omega)).trans (h.row p hp).2.2⟩, h.srt⟩
theorem CRf.at_ {A : Option Addr} {c : Nat} (h : CRf w B (.slice A rn.length c) rn f) {k : Nat} (hk : k < rn.length) :
    ∃ g, A = some ⟨g, 0, none⟩ ∧ B ≤ g ∧ g < w.heap.size ∧ w.cell? ⟨g, k, none⟩ = some (rowV rn[k]) := by
  have h' := h.own
  rcases h' with ⟨e, hn, _⟩ | ⟨g, cap, cur, e, hb, hg, hnc, hcm, ht⟩
  · omega
  · injection e with e1 e2 e3
    subst e1 e3
    obtain ⟨h1, h2, _, _, h5, _⟩ := h.own.at_
    exact ⟨g, rfl, h1, h2, by rw [h5 k (by simpa using hk)]; simp [hk]⟩
end
set_option maxHeartbeats 1000000 in
theorem eqIntSS_any (A A' : Option Addr) (c c' B B' : Nat) (rn rn' : List (Nat × Int × Int)) (w : World) (hl : rn.length ≤ 1048576) (h1 : CRg w B (.slice A rn.length c) rn) (h2 : CRg w B' (.slice A' rn'.length c') rn') (he : rn.map Prod.snd = rn'.map Prod.snd) :
    Calls Try.prog 55 #[.slice A rn.length c, .slice A' rn'.length c'] w fun e w' => e = .returned (.bool true) ∧ Below w.heap.size w w' := by
  have hlen : rn'.length = rn.length := by have := congrArg List.length he; simpa using this.symm
  have H1 := Lib.hid h1; clear h1
  have H2 := Lib.hid h2; clear h2
  have HL := Lib.hid hlen
  rw [hlen]
  clear hlen
  go_enter Try.func55, Try.ntmps55
  go_wp2_with fail
  go_loopw [5] (fun i wr => ∃ k : Nat, k ≤ rn.length ∧ i = .int .i64 k ∧ Below w.heap.size w wr) (fun i _ => rn.length - (intOf i).toNat)
  case atStart => exact ⟨0, Nat.zero_le _, rfl, Below.refl _ _⟩
  case round =>
    obtain ⟨k, hk, rfl, hbw⟩ := hrel
    have HB := Lib.hid hbw; clear hbw
    by_cases hlt : k < rn.length
    · have hlt' : k < rn'.length := by rw [HL.out]; exact hlt
      obtain ⟨g, rfl, hg, hc, hR⟩ := (H1.out.on HB.out).at_ hlt
      obtain ⟨g', rfl, hg', hc', hR'⟩ := (H2.out.on HB.out).at_ hlt'
      have hee : rn'[k].2 = rn[k].2 := by
        have h3 : (rn'.map Prod.snd)[k]? = (rn.map Prod.snd)[k]? := by rw [he]
        simpa [hlt, hlt'] using h3
      rw [hee] at hR'
      have P1 := Lib.hid hR; clear hR
      have P2 := Lib.hid hR'; clear hR'
      unfold rowV at hc hc'
      go_wp2_with fail
      ((first | (with_reducible refine wp_region_from (by with_reducible assumption) follows (by kernel_rfl) ?_) | (refine wp_region_aft follows (by kernel_rfl) ?_)); (repeat (go_big_quiet_step ((go_at_call 87; exact aft (laws_eqIntS_any _ _ _ _ [rn[k].2.1, rn[k].2.2] _ (by simp [maxLen]) (P1.out.on (After.below _)) (P2.out.on (After.below _))))))); refine wpQuiet_nil ?_; intro _ hw'; obtain ⟨⟨w1, hb⟩, rfl⟩ := hw'; (try dsimp only); first | (replace hb := Below.via hb (by with_reducible assumption); (try clear hbc hbf hbz); obtain ⟨hbc, hbf, hbz⟩ := bcell hb) | (obtain ⟨hbc, hbf, hbz⟩ := bcell hb))
      go_wp2
      exact ⟨⟨k + 1, by omega, by go_num, by have hbw := HB.out; (repeat' (first | (with_reducible exact Below.refl _ _) | (with_reducible assumption) | (with_reducible refine Below.al ?_ _) | (with_reducible refine Below.drew ?_) | (with_reducible refine Below.drN ?_ _) | (with_reducible refine Below.via (by with_reducible assumption) ?_) | (with_reducible refine Below.setc ?_ ?_ _) | (with_reducible exact Nat.le_refl _) | (simp; done) | (simp; omega)))⟩, by simp [intOf]; omega⟩
    · go_wp2
      go_ret
      exact ⟨rfl, HB.out⟩
set_option maxHeartbeats 1000000 in
theorem markIntSS_any (A : Option Addr) (c B : Nat) (rn : List (Nat × Int × Int)) (f : Nat → List Int) (k0 : Int) (w : World) (hl : rn.length ≤ 1000) (hk0 : 0 ≤ k0 ∧ k0 ≤ 1000000) (h1 : CRf w B (.slice A rn.length c) rn f) (hB : B ≤ w.heap.size) :
    Calls Try.prog 56 #[.slice A rn.length c, .int .i64 k0] w fun e w' => e = .returned (.int .i64 (k0 + 2 * rn.length)) ∧ CRf w' B (.slice A rn.length c) rn (fun j => markN (k0 + 2 * j) 2) ∧ Below B w w' := by
  have H1 := Lib.hid (show CRf w B (.slice A rn.length c) rn (fun j => if j < 0 then markN (k0 + 2 * j) 2 else f j) from h1); clear h1
  go_enter Try.func56, Try.ntmps56
  go_wp2_with fail
  go_loopw [1, 5] (fun q i wr => ∃ k : Nat, k ≤ rn.length ∧ i = .int .i64 k ∧ q = .int .i64 (k0 + 2 * k) ∧ CRf wr B (.slice A rn.length c) rn (fun j => if j < k then markN (k0 + 2 * j) 2 else f j) ∧ Below B w wr) (fun _ i _ => rn.length - (intOf i).toNat)
  case atStart => exact ⟨0, Nat.zero_le _, rfl, by simp, H1.out, Below.refl _ _⟩
  case round =>
    clear H1
    obtain ⟨k, hk, rfl, rfl, hC, hbw⟩ := hrel
    have HC := Lib.hid hC; clear hC
    have HB := Lib.hid hbw; clear hbw
    by_cases hlt : k < rn.length
    · obtain ⟨g, rfl, hBg, hg, hc⟩ := HC.out.at_ hlt
      obtain ⟨hb1, hb2, hb3, hb4⟩ := HC.out.row k hlt
      simp only [Nat.lt_irrefl, if_false] at hb3 hb4
      have hmk := laws_markIntS_any (some ⟨rn[k].1, 0, none⟩) 2 (f k) B (k0 + 2 * k) wr (by omega) (by omega) (by rw [hb3]; exact hb4)
      rw [hb3] at hmk
      have HMK := Lib.hid hmk; clear hmk hb4
      unfold rowV at hc
      go_wp2_with fail
      refine HMK.out.mono ?_
      rintro e w2 ⟨rfl, hO2, hg2⟩
      go_wp2
      refine ⟨⟨k + 1, by omega, by go_num, by go_num, ⟨far_of HC.out.own hg2 (fun j hj e => by simp [Value.ownBlock] at e hj; exact hb2 (by simp [Value.ownBlock]; omega)), fun j hj => ?_, HC.out.inj⟩, ?_⟩, by simp [intOf]; omega⟩
      · obtain ⟨c1, c2, c3, c4⟩ := HC.out.row j hj
        by_cases e : j = k
        · subst e
          refine ⟨c1, c2, by simp [markN_len], ?_⟩
          simp only [Nat.lt_succ_self, if_true]
          exact hO2
        · have hne := HC.out.inj j k hj hlt e
          have e2 : (if j < k + 1 then markN (k0 + 2 * (j : Int)) 2 else f j) = (if j < k then markN (k0 + 2 * (j : Int)) 2 else f j) := by
            by_cases h : j < k
            · rw [if_pos h, if_pos (by omega)]
            · rw [if_neg h, if_neg (by omega)]
          rw [e2]
          exact ⟨c1, c2, c3, far_of c4 hg2 (fun i hi e' => by simp [Value.ownBlock] at e' hi; omega)⟩
      · have hh := HB.out.size
        exact HB.out.grown hg2 (by omega) (fun i hi => by simp [Value.ownBlock] at hi; omega)
    · have hk' : k = rn.length := by omega
      subst hk'
      go_wp2
      go_ret
      refine ⟨rfl, ⟨HC.out.own, fun j hj => ?_, HC.out.inj⟩, HB.out⟩
      have h := HC.out.row j hj
      simp only [hj, if_true] at h
      exact h
set_option maxHeartbeats 1000000 in
theorem heldIntSS_any (A : Option Addr) (c B : Nat) (rn : List (Nat × Int × Int)) (k0 : Int) (w : World) (hl : rn.length ≤ 1000) (hk0 : 0 ≤ k0 ∧ k0 ≤ 1000000) (h1 : CRf w B (.slice A rn.length c) rn (fun j => markN (k0 + 2 * j) 2)) :
    Calls Try.prog 57 #[.slice A rn.length c, .int .i64 k0] w fun e w' => e = .returned (.int .i64 (k0 + 2 * rn.length)) ∧ w = w' := by
  have H1 := Lib.hid h1; clear h1
  go_enter Try.func57, Try.ntmps57
  go_wp2_with fail
  go_loop [1, 5] (fun q i => ∃ k : Nat, k ≤ rn.length ∧ i = .int .i64 k ∧ q = .int .i64 (k0 + 2 * k)) (fun _ i => rn.length - (intOf i).toNat)
  case atStart => exact ⟨0, Nat.zero_le _, rfl, by simp⟩
  case round =>
    obtain ⟨k, hk, rfl, rfl⟩ := hrel
    by_cases hlt : k < rn.length
    · obtain ⟨g, rfl, hBg, hg, hc⟩ := H1.out.at_ hlt
      obtain ⟨hb1, hb2, hb3, hb4⟩ := H1.out.row k hlt
      have HR := Lib.hid (OwnI.rd (l := markN (k0 + 2 * k) 2) (by have h := hb4; exact h)); clear hb4 hb3
      unfold rowV at hc
      go_wp2_with fail
      refine (laws_heldIntS_any _ _ 2 (k0 + 2 * k) _ (by omega) (by omega) HR.out).mono ?_
      rintro e w2 ⟨rfl, rfl⟩
      go_wp2
      exact ⟨⟨k + 1, by omega, by go_num, by go_num⟩, by simp [intOf]; omega⟩
    · have hk' : k = rn.length := by omega
      subst hk'
      go_wp2
      go_ret
      exact ⟨rfl, rfl⟩
end Go.Proofs.Ytlcaadjlghbcpaa
