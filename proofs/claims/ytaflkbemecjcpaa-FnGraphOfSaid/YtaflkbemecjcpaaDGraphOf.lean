/- The law FnGraphOf answers true: GraphOf is made of ConflictsOf CommittedOf the schedule. No condition. -/
import Derived.Test.YtaflkbemecjcpaaRows
import Derived.Test.YtaflkbemecjcpaaSome
import Derived.Test.YtaflkbemecjcpaaPl
import Derived.Test.YtaflkbemecjcpaaLawsD
import Derived.Test.YtaflkbemecjcpaaCfl
import Derived.Test.YtaflkbemecjcpaaGrI
namespace Go.Proofs.Ytaflkbemecjcpaa.dgraphOf
set_option linter.unusedSimpArgs false
set_option linter.unusedVariables false
open Go.ChangeShapes Go.WideShapes Go.ChangeAt Go.RowKit
theorem rowP_none (l : List O3) (i k : Nat) (h : k ≤ i + 1) : rowP l i k = [] := by
  unfold rowP
  rw [List.map_eq_nil_iff, List.filter_eq_nil_iff]
  intro j hj
  rw [List.mem_range] at hj
  simp
  omega
def gP (l : List O3) (ps : List (Int × Int)) : Nat → Nat → Bool := ps.foldl (fun f p => addE f (txN l p.1.toNat) (txN l p.2.toNat)) (fun _ _ => false)
theorem gP_snoc (l : List O3) (ps : List (Int × Int)) (p : Int × Int) : gP l (ps ++ [p]) = addE (gP l ps) (txN l p.1.toNat) (txN l p.2.toNat) := by simp [gP, List.foldl_append]
theorem gP_in (l : List O3) (i : Nat) : ∀ k, eIn l i (gP l (allP l i)) k = gP l (cfsTo l i k)
  | 0 => by unfold cfsTo; rw [rowP_none _ _ _ (Nat.zero_le _), List.append_nil]; rfl
  | k + 1 => by
    by_cases hik : i < k
    · cases hcf : cfAt l i k
      · rw [eIn_no hcf, cfsTo_no hcf]; exact gP_in l i k
      · rw [eIn_yes hik hcf, cfsTo_yes hik hcf, gP_snoc, gP_in l i k]; simp
    · rw [eIn_start _ _ _ _ (by omega)]
      unfold cfsTo
      rw [rowP_none _ _ _ (by omega), List.append_nil]
theorem gP_to (l : List O3) : ∀ i, eTo l i = gP l (allP l i)
  | 0 => rfl
  | i + 1 => by rw [eTo, gP_to l i, gP_in]; rfl
theorem allP_mem {l : List O3} : ∀ {n : Nat}, n ≤ l.length → ∀ p ∈ allP l n, ∃ i j : Nat, p = ((i : Int), (j : Int)) ∧ i < j ∧ j < l.length
  | 0, _, p, hp => by simp [allP] at hp
  | n + 1, hn, p, hp => by
    rcases List.mem_append.1 hp with h | h
    · exact allP_mem (by omega) p h
    · unfold rowP at h
      obtain ⟨j, hj, rfl⟩ := List.mem_map.1 h
      rw [List.mem_filter, List.mem_range] at hj
      simp at hj
      exact ⟨n, j, rfl, hj.2.1, hj.1⟩
theorem cell_of_blk {w w1 : World} {p : Addr} (h : w1.heap[p.block]? = w.heap[p.block]?) : w1.cell? p = w.cell? p := by unfold World.cell?; rw [h]
theorem CRg.gr {w w1 : World} {B g : Nat} {v : Value} {rn : List (Nat × Int × Int)} (h : CRg w B v rn) (hg : w.grownBy w1 (some g)) (hB : g < B) : CRg w1 B v rn :=
  ⟨OwnG.far h.own hg (by
    cases hv : v.ownBlock with
    | none => exact .inl rfl
    | some q => refine .inr ?_; have := (OwnG.own_lt h.own q hv).1; simp; omega), fun p hp => ⟨(h.row p hp).1, (h.row p hp).2.1, (hg.block _ (lt_of_block (h.row p hp).2.2) (by have := (h.row p hp).1; simp; omega)).trans (h.row p hp).2.2⟩, h.srt⟩
set_option maxRecDepth 100000 in
set_option maxHeartbeats 4000000 in
theorem walk (A : Option Addr) (c n : Nat) (w : World) (hc : n ≤ c) (hl : n ≤ maxLen) (hR : RdB w w.heap.size A n) :
    Calls Try.prog 4 #[.slice A n c] w fun e w' => e = .returned (.bool true) ∧ Below w.heap.size w w' := by
  have HL := Lib.hid hl
  unfold maxLen at hl
  by_cases hbig : (1048576 : Int) < n
  · go_enter Try.func4, Try.ntmps4
    go_wp2
    go_ret
    exact ⟨rfl, Below.refl _ _⟩
  · go_enter Try.func4, Try.ntmps4
    go_wp2_with fail
    refine (DrawGraphOf_any A c n _ hc HL.out hR).mono ?_
    rintro e w1 ⟨⟨A1, c1, l, rfl, hl1, hc1, hR1⟩, hb1⟩
    have HM := Lib.hid (show l.length ≤ maxLen by unfold maxLen; omega)
    have HR := Lib.hid hR1; clear hR1
    have HC := Lib.hid hc1; clear hc1
    go_wp2_with fail
    refine (impl_GraphOf_any _ _ _ _ (by omega) HC.out HR.out).mono ?_
    rintro e w2 ⟨⟨v2, rfl, hO2⟩, hb2⟩
    have R2 := Lib.hid (HR.out.on hb2)
    go_wp2_with fail
    refine (spec_GraphOf_any _ _ _ _ (by omega) HC.out R2.out).mono ?_
    rintro e w3 ⟨⟨v3, rfl, hO3⟩, hb3⟩
    have R3 := Lib.hid (R2.out.on hb3)
    have O2 := Lib.hid (hO2.on hb3)
    have B3 := Lib.hid (show Below w.heap.size w w3 by (repeat' (first | (with_reducible exact Below.refl _ _) | (with_reducible assumption) | (with_reducible refine Below.al ?_ _) | (with_reducible refine Below.drew ?_) | (with_reducible refine Below.drN ?_ _) | (with_reducible refine Below.via (by with_reducible assumption) ?_) | (with_reducible refine Below.setc ?_ ?_ _) | (with_reducible exact Nat.le_refl _) | (simp; done) | (simp; omega))))
    obtain ⟨A2, c2, rfl, ⟨hc2, hm2⟩, _, _⟩ := hO2.reads
    obtain ⟨A3, c3, rfl, _, hR3', _⟩ := hO3.reads
    have hcl := graV_len l (by omega)
    clear hb1 hb2 hb3 hO2 hO3
    go_wp2_with fail
    refine (equalInts_any A2 A3 c2 c3 (graV l) _ hcl O2.out.rd hR3').mono ?_
    rintro e w4 ⟨rfl, hb4⟩
    have B4 := Lib.hid (show Below w.heap.size w w4 by have h3 := B3.out; (repeat' (first | (with_reducible exact Below.refl _ _) | (with_reducible assumption) | (with_reducible refine Below.al ?_ _) | (with_reducible refine Below.drew ?_) | (with_reducible refine Below.drN ?_ _) | (with_reducible refine Below.via (by with_reducible assumption) ?_) | (with_reducible refine Below.setc ?_ ?_ _) | (with_reducible exact Nat.le_refl _) | (simp; done) | (simp; omega))))
    have R4 := Lib.hid (R3.out.on hb4)
    have O4 := Lib.hid (O2.out.on hb4)
    clear hb4 hR3' O2 R3 B3
    cases hv : tt (ValidP l)
    · have HV := Lib.hid hv; clear hv
      go_wp2_with fail
      refine (impl_ValidSchedule_any _ _ _ _ HM.out HC.out R4.out).mono ?_
      rintro e w5 ⟨rfl, hb5⟩
      rw [HV.out]
      go_wp2_with fail
      refine (spec_GraphOf_any _ _ _ _ (by omega) HC.out (R4.out.on hb5)).mono ?_
      rintro e w6 ⟨⟨v6, rfl, hO6⟩, hb6⟩
      obtain ⟨A6, c6, rfl, _, hR6, _⟩ := hO6.reads
      go_wp2_with fail
      refine (equalInts_any A2 A6 c2 c6 (graV l) _ hcl ((O4.out.on hb5).on hb6).rd hR6).mono ?_
      rintro e w7 ⟨rfl, hb7⟩
      have h4 := B4.out
      go_wp2
      go_ret
      exact ⟨rfl, by (repeat' (first | (with_reducible exact Below.refl _ _) | (with_reducible assumption) | (with_reducible refine Below.al ?_ _) | (with_reducible refine Below.drew ?_) | (with_reducible refine Below.drN ?_ _) | (with_reducible refine Below.via (by with_reducible assumption) ?_) | (with_reducible refine Below.setc ?_ ?_ _) | (with_reducible exact Nat.le_refl _) | (simp; done) | (simp; omega)))⟩
    · have HV := Lib.hid hv
      have hP : ValidP l := tt_eq.1 hv
      clear hv
      have hcv : graV l = graL (comL l) := by unfold graV; rw [HV.out, if_pos rfl]
      have HCE := Lib.hid (show comV l = comL l by unfold comV; rw [HV.out]; rfl)
      have hPC := com_valid hP
      have hccl := comL_len l
      have hgl : graL (comL l) = mk4 (gP (comL l) (cfsL (comL l))) := by unfold graL; rw [gP_to]; rfl
      have HCF := Lib.hid (show cfsV (comL l) = cfsL (comL l) by unfold cfsV; rw [tt_true hPC]; rfl)
      rw [hcv] at O4 hm2 hc2 hcl ⊢; clear hcv
      obtain ⟨L, hL⟩ : ∃ L, L = comL l := ⟨_, rfl⟩
      rw [← hL] at hgl HCF HCE hccl hPC O4 hm2 hc2 hcl ⊢
      have hVL : ∀ o ∈ L, validB o = true := by rw [hL]; exact comL_all hP
      have HVL := Lib.hid hVL
      have HMEM := Lib.hid (show ∀ p ∈ cfsL L, _ from allP_mem (Nat.le_refl L.length))
      have hl16 : L.length ≤ 16 := by have := hP.1; omega
      clear hL hVL
      obtain ⟨i0, hi0, hz0, hz1, hz2⟩ := info_parts info_I
      have H1 := Lib.hid (show i0.bytes * 4 ≤ 281474976710656 by rw [hz2]; omega)
      have H2 := Lib.hid (show 4 ≤ maxLen by unfold maxLen; omega)
      go_wp2_with fail
      refine (impl_ValidSchedule_any _ _ _ _ HM.out HC.out R4.out).mono ?_
      rintro e w5 ⟨rfl, hb5⟩
      rw [HV.out]
      have B5 := Lib.hid (show Below w.heap.size w w5 by have h3 := B4.out; (repeat' (first | (with_reducible exact Below.refl _ _) | (with_reducible assumption) | (with_reducible refine Below.al ?_ _) | (with_reducible refine Below.drew ?_) | (with_reducible refine Below.drN ?_ _) | (with_reducible refine Below.via (by with_reducible assumption) ?_) | (with_reducible refine Below.setc ?_ ?_ _) | (with_reducible exact Nat.le_refl _) | (simp; done) | (simp; omega))))
      have R5 := Lib.hid (R4.out.on hb5)
      have O5 := Lib.hid (O4.out.on hb5)
      clear hb5 R4 O4 B4
      go_wp2_with fail
      refine (impl_CommittedOf_any _ _ l _ (by omega) HC.out R5.out).mono ?_
      rintro e w6 ⟨⟨v6, rfl, hO6⟩, hb6⟩
      rw [HCE.out] at hO6
      obtain ⟨A6, c6, rfl, ⟨hc6, hm6⟩, hR6, _⟩ := hO6.reads
      have B6 := Lib.hid (Below.via hb6 B5.out)
      have O6 := Lib.hid (O5.out.on hb6)
      clear hb6 hO6 R5 O5
      go_wp2_with (at_make; refine wpList_make_full _ rfl _ _ 24 rfl w6.heap.size 3 i0 _ 1 Try.underlying24 hi0 hz0 hz1 .i64 .i64 _ _ 4 rfl rfl rfl rfl H1.out H2.out (Nat.le_refl _) ?_; intro W hOW hg; have hbW : Below w6.heap.size w6 W := (Below.refl _ _).grown hg (Nat.le_refl _) (by simp); clear hg)
      have hR7 := hR6.on hbW
      refine (impl_ConflictsOf_any _ _ L _ (by omega) hc6 hR7).mono ?_
      rintro e w8 ⟨⟨v8, rn8, rfl, hO8, hps8⟩, hb8⟩
      obtain ⟨A8, c8, rfl⟩ : ∃ A c, v8 = .slice A rn8.length c := by obtain ⟨A, c, e, _⟩ := OwnG.clip hO8.own; exact ⟨A, c, e⟩
      have HPS := Lib.hid (show rn8.map Prod.snd = cfsL L from hps8.trans HCF.out)
      have hrl : rn8.length ≤ 1000 := by have := cfsV_le L; rw [← hps8, List.length_map] at this; exact this
      have hWlt : w6.heap.size < W.heap.size := (hOW.lt _ rfl).2
      have hO0 : OwnI w8 w6.heap.size 3 (.slice (some ⟨w6.heap.size, 0, none⟩) 4 4) (mk4 (gP L (([] : List (Int × Int))))) := OwnI.on (OwnG.of_row (by simpa [madeCells, cellsI, mk4, msk, gP, Value.cells, List.range_succ] using hOW)) hb8
      have R8 := Lib.hid (hR7.on hb8)
      have B8 := Lib.hid (Below.via hb8 (Below.via hbW B6.out))
      have O8 := Lib.hid hO8
      have O6' := Lib.hid ((O6.out.on hbW).on hb8)
      have HW8 := Lib.hid hb8.size
      have R8L := Lib.hid (hR6.below (Below.trans hbW (hb8.mono hbW.size)) (Nat.le_refl _))
      have HNE := Lib.hid (show (Value.slice A2 (graL L).length c2).ownBlock = none ∨ (Value.slice A2 (graL L).length c2).ownBlock ≠ some w6.heap.size by
        cases hv : (Value.slice A2 (graL L).length c2).ownBlock with
        | none => exact .inl rfl
        | some q => refine .inr ?_; have h := (OwnG.own_lt O6.out q hv).2; simp; omega)
      have HB6 := Lib.hid B6.out.size
      clear hb8 hbW hO8 hOW hR7 hR6 hps8 O6 B6
      go_wp2_with fail
      go_loopw [8, 9] (fun v8 _ wr => ∃ k : Nat, k ≤ rn8.length ∧ v8 = .int .i64 k ∧ OwnI wr w6.heap.size 3 (.slice (some ⟨w6.heap.size, 0, none⟩) 4 4) (mk4 (gP L ((cfsL L).take k))) ∧ w8.grownBy wr (some w6.heap.size)) (fun v8 _ _ => rn8.length - (intOf v8).toNat)
      case atStart => exact ⟨0, Nat.zero_le _, rfl, hO0, World.grownBy.refl _ _⟩
      case round =>
        clear hO0
        obtain ⟨k, hk, rfl, hown, hgw⟩ := hrel
        have HO := Lib.hid hown; clear hown
        have HG := Lib.hid hgw; clear hgw
        have hn2 : ∀ p : Addr, p.block < w6.heap.size → wr.cell? p = w8.cell? p := fun p hp => cell_of_blk (HG.out.block p.block (by have := HW8.out; omega) (by simp; omega))
        have RL := Lib.hid ((R8L.out).keep hn2)
        clear hn2
        have RC := Lib.hid (CRg.gr O8.out HG.out hWlt)
        by_cases hlt : k < rn8.length
        · have hkl : k < (cfsL L).length := by rw [← HPS.out, List.length_map]; exact hlt
          obtain ⟨i, j, hij, hij1, hij2⟩ := HMEM.out _ (List.getElem_mem hkl)
          have hiL : i < L.length := by omega
          have hrk : rn8[k].2 = ((i : Int), (j : Int)) := by rw [← hij]; simp only [← HPS.out, List.getElem_map]
          obtain ⟨g, rfl, hgz, hgc, hgR⟩ := RC.out.at_ hlt
          rw [hrk] at hgR
          unfold rowV at hgc
          obtain ⟨g2, o2, he2, hg2, u0⟩ := hgR.at_ (k := 0) (by simp)
          injection he2 with he2; injection he2 with he3 he4
          subst he4
          obtain ⟨g2', o2', he2, hg2', u1⟩ := hgR.at_ (k := 1) (by simp)
          injection he2 with he2; injection he2 with he3' he4
          subst he4
          rw [← he3] at hg2 u0
          rw [← he3'] at u1
          simp only [List.getElem_cons_zero, List.getElem_cons_succ, Nat.zero_add] at u0 u1
          obtain ⟨b, off, rfl, hb, q0, q1, q2⟩ := RL.out.at_ hiL
          obtain ⟨b', off', he, hb', r0, r1, r2⟩ := RL.out.at_ hij2
          injection he with he; injection he with he5 he6
          subst he5 he6
          obtain ⟨n1, hn, hn3⟩ := valid_num HVL.out hiL
          obtain ⟨v, hv, hv3⟩ := valid_num HVL.out hij2
          rw [hn] at q0
          rw [hv] at r0
          have HNn := Lib.hid hn
          have HVV := Lib.hid hv
          have HIJ := Lib.hid hij
          have hi' : (i : Int) < (L.length : Int) := by omega
          have hj' : (j : Int) < (L.length : Int) := by omega
          have hn4 : (n1 : Int) < 4 := by omega
          have hlen : n1 < (mk4 (gP L ((cfsL L).take k))).length := by rw [mk4_len]; omega
          obtain ⟨_, c7, c8', c9'⟩ := OwnI.cells HO.out hlen
          clear hn hv hij hrk hgR he3 he3' q1 q2 r1 r2 hg2'
          go_wp2_with fail
          refine wp_region_still_tail 18 (by kernel_rfl) (by kernel_rfl) ?_
          simp only [List.take_succ_cons, List.take_zero, List.drop_succ_cons, List.drop_zero]
          repeat still_step
          still_call ((laws_power_any v _ hv3).mono fun e w'' h => ⟨h.1, h.2.symm⟩)
          repeat still_step
          refine wpStill_nil ?_
          change wpList _ _ _ _ _ wr.drew
          go_wp2_with fail
          refine ⟨⟨k + 1, by omega, by go_num, ?_, ag_grown HG.out⟩, by simp [intOf]; omega⟩
          have e : mk4 (gP L ((cfsL L).take (k + 1))) = (mk4 (gP L ((cfsL L).take k))).set n1 (bits .or .i64 (mk4 (gP L ((cfsL L).take k)))[n1] (pwN v)) := by
            rw [List.take_succ_eq_append_getElem hkl, gP_snoc, HIJ.out]
            simp only [Int.toNat_natCast]
            rw [txN_eq hiL HNn.out, txN_eq hij2 HVV.out]
            exact (mk4_set _ hlen hv3).symm
          rw [e]
          exact OwnG.kept (OwnI.set_ HO.out (by rw [mk4_len]) n1 _) (fun _ _ => rfl)
        · have hk' : k = rn8.length := by omega
          have hkk : (cfsL L).take k = cfsL L := by rw [List.take_of_length_le (by rw [hk', ← HPS.out, List.length_map]; exact Nat.le_refl _)]
          have hfin := OwnI.rd HO.out
          rw [hkk, ← hgl] at hfin
          have hout := OwnI.rd (OwnG.far O6'.out HG.out HNE.out)
          clear hk'
          go_wp2_with fail
          refine (equalInts_any A2 _ c2 4 (graL L) _ hcl hout hfin).mono ?_
          rintro e w9 ⟨rfl, hb9⟩
          have h8 := (B8.out.grown HG.out B8.out.size (fun k hk => by cases hk; exact HB6.out))
          go_wp2
          go_ret
          exact ⟨rfl, by (repeat' (first | (with_reducible exact Below.refl _ _) | (with_reducible assumption) | (with_reducible refine Below.al ?_ _) | (with_reducible refine Below.drew ?_) | (with_reducible refine Below.drN ?_ _) | (with_reducible refine Below.via (by with_reducible assumption) ?_) | (with_reducible refine Below.setc ?_ ?_ _) | (with_reducible exact Nat.le_refl _) | (simp; done) | (simp; omega)))⟩
theorem own : ownKnob Try.prog.godebug = none := by kernel_rfl
theorem laidOut : laidOutB Try.prog = true := by kernel_rfl
set_option maxRecDepth 100000 in
theorem lifted (os : Os) (started : os.Started) (H : Type) (enc : TypeId × Value → H) :
    ReturnsInHanded {} Try.checked os 4 .any (Rows.fnGraphOfSpec.pre6 enc Try.prog Try.f4 Rows.fnGraphOfRow.domain false) (Rows.fnGraphOfSpec.post enc Try.prog Try.f4 false true false false) := by
  refine returnsInHanded_of_change (C := Try.checked) own started (by kernel_rfl) Try.func4
    (ChangeSpec.witness6 (enc := enc) (C := Try.checked) false ⟨#[], #[.slice none 0 0], []⟩ 8 (by kernel_rfl) (by kernel_rfl) (by kernel_rfl) (by kernel_rfl)) ?_
  intro W base args ds gs before hval0 hW hcnd _
  have hval : ∀ (j : Nat) t v, Try.f4.params[j]? = some t → args[j]? = some v → Value.okWide Try.prog W .any base t v := hval0
  have hW' := hW
  obtain ⟨p, q, hA0, hV, rfl, hfz, hnd⟩ := hW
  have hA : DataW.TrodAll enc Try.prog W 0 (fun _ => true) true Try.f4.params.toList args.toList ds p := hA0
  rw [Try.params4] at hA hval
  obtain ⟨v0, vs0, d0, ds0, p0, q0, hargs, rfl, rfl, h0, r0⟩ := trodAll_cons hA
  obtain ⟨rfl, rfl, rfl⟩ := trodAll_nil r0
  obtain rfl : args = #[v0] := by cases args; simp_all
  obtain ⟨rfl, rfl⟩ := trodVars_none hV
  have k0 := h0
  have lt0 : ∀ x ∈ p0, x.block < W.heap.size := by obtain ⟨m, hm⟩ := k0; exact DataW.trod_lt m _ _ _ hm
  obtain ⟨A0, c0, n0, rfl, hc0, hl0, hR0⟩ := open_bytes Try.underlying33 Try.underlying5 (by kernel_rfl) (hval 0 33 v0 rfl rfl) h0
  clear hA0 hval0
  refine (walk A0 c0 n0 W hc0 hl0 hR0).mono fun e W' ⟨he, bel⟩ => ?_
  subst he
  exact ⟨_, rfl, _, _, _, [], _, [], hW', trodAll_mk1 (shut_bool Try.underlying4 _), (trodAll_cons_mk (Below.trod laidOut (by kernel_rfl) (of_decide_eq_true (by kernel_rfl)) k0 bel lt0) trodAll_mk0), rfl, bel.frame _, fun h => by cases h⟩
theorem holds : Rows.FnGraphOfSaid :=
  OpenClaim.holds_of_wide 4 Try.f4 rfl rfl rfl rfl rfl rfl rfl ⟨rfl, rfl, rfl, rfl, rfl⟩ rfl rfl rfl rfl rfl (by kernel_rfl) Try.func4 (by kernel_rfl)
    (of_decide_eq_true (by kernel_rfl)) (by unfold Func.isWrapper; rw [if_neg (of_decide_eq_false (by kernel_rfl))]; exact ⟨rfl, rfl⟩)
    (fun os started H enc _ => lifted os started H enc)
#print axioms holds
end Go.Proofs.Ytaflkbemecjcpaa.dgraphOf
