/- Schedules in which all transactions end: contracts of Completed, the reference's and the program's. -/
import Derived.Laws.AppendOwnNone
import Derived.Maps.AppendAt
import Derived.Test.YtlcaadjlghbcpaaPl
import Derived.Test.YtlcaadjlghbcpaaSwap
namespace Go.Proofs.Ytlcaadjlghbcpaa
set_option linter.unusedSimpArgs false
set_option linter.unusedVariables false
open Go.RowKit

/-- A slice's address is none (and it has no room) or stands in a row. -/
def AddrOk (A : Option Addr) (c : Nat) : Prop := (A = none ∧ c = 0) ∨ ∃ b off, A = some ⟨b, off, none⟩
theorem OwnG.addr {w : World} {base n c k : Nat} {A : Option Addr} {E : TypeId} {xs : List Value} (h : OwnG w base E (.slice A n c) k xs) : AddrOk A c := by
  rcases h with ⟨e, _⟩ | ⟨g, cap, cur, e, _⟩
  · injection e with e1 e2 e3; exact .inl ⟨e1, e3⟩
  · injection e with e1 e2 e3; exact .inr ⟨g, 0, e1⟩
section
variable {P : Program} {ops : Array Oper} {rest : List Oper} {o : Oper} {a : Act} {Q : Exit → Act → World → Prop}
theorem wpList_app_x (W : World) (T E : TypeId) (i : TypeInfo) (hgd : o.guard = none) (s x : Operand)
    (ho : o.op = .call { callee := .builtin .append, args := #[s, x], argTypes := #[T, T] })
    (ht : P.underlying T = some (.slice E)) (hi : P.info? E = some i) (hz : i.zero = some (.agg #[.int .i64 0, .int .i64 0, .int .i64 0])) (hsize : i.size = 3) (hby : i.bytes = 24)
    (base : Nat) (v : Value) (l : List O3) (hs : a.eval s = v) (hown : AppO W base E v l)
    (B : Nat) (A : Option Addr) (m c : Nat) (l2 : List O3) (hA : AddrOk A c) (hx : a.eval x = .slice A m c) (hm : m = l2.length) (hR : RdO W B A l2) (hlen : l.length + l2.length ≤ 4194304) (hbase : base ≤ W.heap.size)
    (h : ∀ A' c' w', AppO w' base E (.slice A' (l ++ l2).length c') (l ++ l2) → W.grownBy w' v.ownBlock → Below base W w' → wpList P ops Q rest (a.put o.dst (.slice A' (l ++ l2).length c')) w') :
    wpList P ops Q (o :: rest) a W := by
  rcases hA with ⟨rfl, rfl⟩ | ⟨b, off, rfl⟩
  · have h2 : l2 = [] := by
      rcases l2 with _ | ⟨p, q⟩
      · rfl
      · obtain ⟨b, off, e, _⟩ := hR (by simp)
        cases e
    subst h2
    simp at hm
    subst hm
    obtain ⟨A0, c0, rfl, _⟩ := row_form hown
    refine wpList_append_own_none hgd s x T ho base E i 3 ht hi _ l.length (cellsO l) hs hown hx ?_
    have h3 := h A0 c0 W (by simpa using hown) (World.grownBy.refl _ _) (Below.refl _ _)
    simpa using h3
  · exact wpList_app_os W T E i hgd s x ho ht hi hz hsize hby base v l hs hown B b off m c l2 hx hm hR hlen hbase h
theorem wpList_app_oo (W : World) (T E : TypeId) (i : TypeInfo) (hgd : o.guard = none) (s x : Operand)
    (ho : o.op = .call { callee := .builtin .append, args := #[s, x], argTypes := #[T, T] })
    (ht : P.underlying T = some (.slice E)) (hi : P.info? E = some i) (hz : i.zero = some (.agg #[.int .i64 0, .int .i64 0, .int .i64 0])) (hsize : i.size = 3) (hby : i.bytes = 24)
    (base : Nat) (v : Value) (l : List O3) (hs : a.eval s = v) (hown : AppO W base E v l)
    (p : O3) (g : Nat) (hx : a.eval x = .slice (some ⟨g, 0, none⟩) 1 1) (hgW : g = W.heap.size) (hlen : l.length ≤ 4194304) (hbase : base ≤ W.heap.size)
    (h : ∀ A' c' w', AppO w' base E (.slice A' (l.length + 1) c') (l ++ [p]) → (W.alloc (.cells #[.int .i64 p.tx, .int .i64 p.kind, .int .i64 p.item] E)).grownBy w' v.ownBlock →
      ((Value.slice A' (l.length + 1) c').ownBlock = v.ownBlock ∨ ∃ k, (Value.slice A' (l.length + 1) c').ownBlock = some k ∧ W.heap.size ≤ k) → Below base W w' → wpList P ops Q rest (a.put o.dst (.slice A' (l.length + 1) c')) w') :
    wpList P ops Q (o :: rest) a (W.alloc (.cells #[.int .i64 p.tx, .int .i64 p.kind, .int .i64 p.item] E)) := by
  subst hgW
  refine wpList_append_own_at _ hgd s x T ho base E i _ 3 24 ht hi hz hsize hby rfl (by decide) v l.length (cellsO l) hs (hown.alloc _) ⟨W.heap.size, 0, none⟩ 1 1 (cellsO [p]) hx rfl ?_ (cellsO_one _) ?_ ?_ ?_ ?_
  · intro j u hj
    rw [addr_add, Nat.zero_add, World.cell?_alloc_new]
    simpa [cellsO] using hj
  · unfold maxLen; omega
  · omega
  · simp; omega
  · intro v' w' h1 h2 _ h4
    obtain ⟨A', c', rfl, _⟩ := row_form h1
    refine h A' c' w' (by unfold AppO; rw [List.length_append, cellsO_append]; exact h1) h2 ?_ ?_
    · rcases h4 with h4 | h4
      · exact .inl h4
      · exact .inr ⟨_, h4, by simp⟩
    · exact Below.grown ((Below.refl _ _).alloc hbase _) h2 (by simp; omega) (fun k hk => (hown.lt k hk).1)
end
set_option maxHeartbeats 400000 in
theorem Clone_Op_all (A : Option Addr) (c : Nat) (l : List O3) (w : World) (hA : AddrOk A c) (hl : l.length ≤ 1048576) (hR : RdO w w.heap.size A l) :
    Calls Try.prog 83 #[.slice A l.length c] w fun e w' => (∃ A' c', e = .returned (.slice A' l.length c') ∧ AppO w' w.heap.size 24 (.slice A' l.length c') l) ∧ Below w.heap.size w w' := by
  rcases hA with ⟨rfl, rfl⟩ | ⟨b, off, rfl⟩
  · have h2 : l = [] := by
      rcases l with _ | ⟨p, q⟩
      · rfl
      · obtain ⟨b, off, e, _⟩ := hR (by simp)
        cases e
    subst h2
    have hnil := eql_nil none 0 0 w
    go_enter Try.func83, Try.ntmps83
    go_wp2
    go_ret
    exact ⟨⟨none, 0, rfl, AppO.nil_⟩, Below.refl _ _⟩
  · obtain ⟨i0, hi0, hz0, hz1, hz2⟩ := info_parts info_O
    have HO := Lib.hid (show AppO (w.alloc (Obj.cells #[] 24)) w.heap.size 24 (.slice (some ⟨w.heap.size, 0, none⟩) 0 0) [] from AppO.made (Nat.le_refl _) _ _ (by simp [maxLen]) rfl)
    have HR := Lib.hid (hR.alloc (Nat.le_refl _) (Obj.cells #[] 24)); clear hR
    have hb0 : Below w.heap.size w (w.alloc (Obj.cells #[] 24)) := by (repeat' (first | (with_reducible exact Below.refl _ _) | (with_reducible assumption) | (with_reducible refine Below.al ?_ _) | (with_reducible refine Below.drew ?_) | (with_reducible refine Below.drN ?_ _) | (with_reducible refine Below.via (by with_reducible assumption) ?_) | (with_reducible refine Below.setc ?_ ?_ _) | (with_reducible exact Nat.le_refl _) | (simp; done) | (simp; omega)))
    have HB := Lib.hid hb0; clear hb0
    have hnil := eql_nil (some ⟨b, off, none⟩) l.length c w
    go_enter Try.func83, Try.ntmps83
    go_wp2_with (at_builtin; refine wpList_app_os _ 29 24 i0 rfl _ _ rfl Try.underlying29 hi0 hz0 hz1 hz2 w.heap.size _ _ rfl HO.out _ _ _ _ _ l rfl rfl HR.out (by simp; omega) HB.out.size ?_; intro A2 c2 w2 hO2 hg2 hb2)
    go_ret
    exact ⟨⟨A2, c2, rfl, by simpa using hO2⟩, HB.out.trans hb2⟩

/-! ### The plain side -/
def cplTo (l : List O3) (k : Nat) : List O3 := l ++ (((txsL l).take k).filter fun t => endL l t == -1).map fun t => ⟨t, 2, 0⟩
theorem cplTo_yes {l : List O3} {k : Nat} (hk : k < (txsL l).length) (h : (endL l (txsL l)[k] == -1) = true) : cplTo l (k + 1) = cplTo l k ++ [⟨(txsL l)[k], 2, 0⟩] := by
  unfold cplTo
  rw [filter_take_yes hk h, List.map_append, List.append_assoc]; rfl
theorem cplTo_no {l : List O3} {k : Nat} (hk : k < (txsL l).length) (h : (endL l (txsL l)[k] == -1) = false) : cplTo l (k + 1) = cplTo l k := by
  unfold cplTo
  rw [filter_take_no hk h]
theorem cplTo_all (l : List O3) : cplTo l (txsL l).length = cplL l := by unfold cplTo cplL cpls; rw [List.take_length]
theorem cplTo_le (l : List O3) (k : Nat) : (cplTo l k).length ≤ l.length + 4 := by
  unfold cplTo
  rw [List.length_append, List.length_map]
  have := filter_take_le (fun t => endL l t == -1) (txsL l) k
  have := txs_le4 l
  omega
theorem cplTo_0 (l : List O3) : cplTo l 0 = l := by simp [cplTo]
noncomputable def cplOk (l : List O3) : Bool := tt (ValidP l) && decide ((cplL l).length ≤ 16)
noncomputable def cplV (l : List O3) : List O3 := if cplOk l = true then cplL l else []
theorem cplV_len (l : List O3) (hl : l.length ≤ 1048576) : (cplV l).length ≤ 1048576 := by
  unfold cplV
  split
  · rename_i h
    simp [cplOk] at h
    omega
  · simp

/-! ### The walks -/
set_option maxHeartbeats 1000000 in
theorem spec_Completed_any (A : Option Addr) (c : Nat) (l : List O3) (w : World) (hl : l.length ≤ 1048576) (hc : l.length ≤ c) (hR : RdO w w.heap.size A l) (hA : AddrOk A c := by first | assumption | exact .inr ⟨_, _, rfl⟩) :
    Calls Try.prog 46 #[.slice A l.length c] w fun e w' => (∃ v, e = .returned (.tuple #[v, .bool (cplOk l)]) ∧ OwnO w' w.heap.size 24 v (cplV l)) ∧ Below w.heap.size w w' := by
  have HM := Lib.hid (show l.length ≤ maxLen by unfold maxLen; omega)
  obtain ⟨i0, hi0, hz0, hz1, hz2⟩ := info_parts info_O
  cases hv : tt (ValidP l)
  · have hs : cplOk l = false := by unfold cplOk; rw [hv]; rfl
    have hs2 : cplV l = [] := by unfold cplV; rw [hs]; rfl
    rw [hs, hs2]
    have HV := Lib.hid hv; clear hv hs hs2
    go_enter Try.func46, Try.ntmps46
    go_wp2_with (go_at_call 67; refine (spec_validSchedule_any _ _ _ _ HM.out hR).mono ?_; rintro e w1 ⟨rfl, hb1⟩; rw [HV.out])
    go_ret2
    exact ⟨⟨_, rfl, OwnO.nil_⟩, by (repeat' (first | (with_reducible exact Below.refl _ _) | (with_reducible assumption) | (with_reducible refine Below.al ?_ _) | (with_reducible refine Below.drew ?_) | (with_reducible refine Below.drN ?_ _) | (with_reducible refine Below.via (by with_reducible assumption) ?_) | (with_reducible refine Below.setc ?_ ?_ _) | (with_reducible exact Nat.le_refl _) | (simp; done) | (simp; omega)))⟩
  · have hs : cplOk l = decide ((cplL l).length ≤ 16) := by unfold cplOk; rw [hv]; rfl
    have HV := Lib.hid hv
    have hP : ValidP l := tt_eq.1 hv
    have hl16 : l.length ≤ 16 := hP.1
    clear hv
    have ht4 := txs_le4 l
    go_enter Try.func46, Try.ntmps46
    go_wp2_with fail
    refine (spec_validSchedule_any _ _ _ _ HM.out hR).mono ?_
    rintro e w1 ⟨rfl, hb1⟩
    rw [HV.out]
    have R1 := Lib.hid (hR.on hb1)
    have HO1 := Lib.hid (show AppO (w1.alloc (Obj.cells #[] 24)) w1.heap.size 24 (.slice (some ⟨w1.heap.size, 0, none⟩) 0 0) [] from AppO.made (Nat.le_refl _) _ _ (by simp [maxLen]) rfl)
    have hb01 : Below w1.heap.size w1 (w1.alloc (Obj.cells #[] 24)) := by (repeat' (first | (with_reducible exact Below.refl _ _) | (with_reducible assumption) | (with_reducible refine Below.al ?_ _) | (with_reducible refine Below.drew ?_) | (with_reducible refine Below.drN ?_ _) | (with_reducible refine Below.via (by with_reducible assumption) ?_) | (with_reducible refine Below.setc ?_ ?_ _) | (with_reducible exact Nat.le_refl _) | (simp; done) | (simp; omega)))
    have hz1' := hb01.size
    have hRa := Lib.hid (R1.out.on hb01)
    have HB1 := Lib.hid hb1; clear hb1
    have HB01 := Lib.hid hb01; clear hb01
    go_wp2_with (at_builtin; refine wpList_app_x _ 29 24 i0 rfl _ _ rfl Try.underlying29 hi0 hz0 hz1 hz2 w1.heap.size _ _ rfl HO1.out _ A _ c l hA rfl rfl hRa.out (by simp; omega) hz1' ?_; intro A2 c2 w2 hO2 hg2 hb2; rw [List.nil_append] at hO2 ⊢)
    have HO2lt := Lib.hid (fun k hk => (hO2.lt k hk).2 : ∀ k, (Value.slice A2 l.length c2).ownBlock = some k → k < w2.heap.size)
    have HO2 := Lib.hid hO2; clear hO2 hg2
    have HB2 := Lib.hid (HB01.out.trans hb2); clear hb2 HO1 hRa HB01
    have R2 := Lib.hid (R1.out.on HB2.out)
    refine (spec_txs_any _ _ _ _ (by omega) R2.out).mono ?_
    rintro e w3 ⟨⟨v3, rfl, hO3⟩, hb3⟩
    have HO3 := Lib.hid (HO2.out.on hb3); clear HO2
    obtain ⟨A3, c3, rfl, _, hR3, _⟩ := hO3.reads
    have HT3 := Lib.hid hO3; clear hO3 hR3
    have R3 := Lib.hid (R2.out.on hb3)
    have B3 := Lib.hid (show Below w1.heap.size w1 w3 from Below.via hb3 HB2.out)
    have hz3 := hb3.size
    have hz2' := HB2.out.size
    clear hb3
    go_wp2_with fail
    have hsep : ∀ k, (Value.slice A2 l.length c2).ownBlock = some k → (Value.slice A3 (txsL l).length c3).ownBlock ≠ some k := fun k h1 h2 => by
      have := (HO2lt.out k h1); have := (OwnG.own_lt HT3.out k h2).1; omega
    have hsep : ∀ k, (Value.slice A2 l.length c2).ownBlock = some k → (Value.slice A3 (txsL l).length c3).ownBlock ≠ some k := fun k h1 h2 => by
      have := (HO2lt.out k h1); have := (OwnG.own_lt HT3.out k h2).1; omega
    go_loopw [4, 6] (fun v i wr => ∃ (k : Nat) (A' : Option Addr) (c' : Nat), k ≤ (txsL l).length ∧ i = .int .i64 k ∧ v = .slice A' (cplTo l k).length c' ∧ AppO wr w1.heap.size 24 (.slice A' (cplTo l k).length c') (cplTo l k) ∧ Below w1.heap.size w1 wr ∧ OwnI wr w2.heap.size 3 (.slice A3 (txsL l).length c3) (txsL l) ∧ (∀ j, (Value.slice A' (cplTo l k).length c').ownBlock = some j → (Value.slice A3 (txsL l).length c3).ownBlock ≠ some j)) (fun _ i _ => (txsL l).length - (intOf i).toNat)
    case atStart => exact ⟨0, A2, c2, Nat.zero_le _, rfl, by rw [cplTo_0], by rw [cplTo_0]; exact HO3.out, B3.out, HT3.out, by rw [cplTo_0]; exact hsep⟩
    case round =>
      clear hsep HO3 HT3 B3
      obtain ⟨k, A', c', hk, rfl, rfl, hown, hbw, hT, hsep⟩ := hrel
      have HO := Lib.hid hown; clear hown
      have HB := Lib.hid hbw; clear hbw
      have HT := Lib.hid hT; clear hT
      have HS := Lib.hid hsep; clear hsep
      have hcl := cplTo_le l k
      have hsz := HB.out.size
      have hl4 : (cplTo l k).length ≤ 4194304 := by omega
      by_cases hlt : k < (txsL l).length
      · obtain ⟨b, off, he, hb, q0⟩ := HT.out.rd.at_ hlt
        subst he
        have hRw := R1.out.on HB.out
        cases e1 : (endL l (txsL l)[k] == -1)
        · have HN := Lib.hid (cplTo_no hlt e1)
          have hge : ¬ endL l (txsL l)[k] < 0 := by have h1 := endL_val l (txsL l)[k]; simp at e1; omega
          clear e1
          go_wp2_with (go_at_call 70; refine (spec_endOf_any _ _ _ _ _ HM.out hRw).mono ?_; rintro e w4 ⟨rfl, hb4⟩)
          exact ⟨⟨k + 1, A', c', by omega, by go_num, by rw [HN.out], by rw [HN.out]; exact HO.out.on hb4, Below.via hb4 HB.out, HT.out.on hb4, by rw [HN.out]; exact HS.out⟩, by simp [intOf]; omega⟩
        · have HY := Lib.hid (cplTo_yes hlt e1)
          have hen : endL l (txsL l)[k] = -1 := by simpa using e1
          clear e1
          go_wp2_with fail
          refine (spec_endOf_any _ _ _ _ _ HM.out hRw).mono ?_
          rintro e w4 ⟨rfl, hb4⟩
          rw [hen]
          have HO4 := Lib.hid (HO.out.on hb4)
          have HT4 := Lib.hid (HT.out.on hb4)
          have B4 := Lib.hid (Below.via hb4 HB.out)
          obtain ⟨hbc, hbf, hbz⟩ := bcell hb4
          have hsz4 := B4.out.size
          clear hb4
          go_wp2_with (at_builtin; refine wpList_app_oo _ 29 24 i0 rfl _ _ rfl Try.underlying29 hi0 hz0 hz1 hz2 w1.heap.size _ _ rfl HO4.out ⟨(txsL l)[k], 2, 0⟩ _ rfl (by first | rfl | simp) hl4 hsz4 ?_; intro A5 c5 w5 hO5 hg5 hv5 hb5)
          refine ⟨⟨k + 1, A5, c5, by omega, by go_num, by rw [HY.out]; simp, by rw [HY.out, List.length_append]; exact hO5, B4.out.trans hb5, far_of (HT4.out.alloc _) hg5 (fun j hj e => HS.out j e hj), ?_⟩, by simp [intOf]; omega⟩
          rw [HY.out, List.length_append]
          intro j hj hj2
          rcases hv5 with h | ⟨k5, h, hk5⟩
          · exact HS.out j (h.symm.trans hj) hj2
          · have := (OwnG.own_lt HT4.out j hj2).2
            have hj' : (Value.slice A5 ((cplTo l k).length + 1) c5).ownBlock = some j := hj
            rw [h] at hj'
            injection hj' with hj'
            omega
      · have hk' : k = (txsL l).length := by omega
        subst hk'
        rw [cplTo_all] at HO hcl ⊢
        have hb0 := Below.trans HB1.out (HB.out.mono HB1.out.size)
        by_cases h16 : (cplL l).length ≤ 16
        · have hok : cplOk l = true := by rw [hs]; simpa using h16
          have hcv : cplV l = cplL l := by unfold cplV; rw [hok]; rfl
          go_wp2
          go_ret2
          exact ⟨⟨.slice A' (cplL l).length c', by rw [hok]; rfl, by rw [hcv]; exact HO.out.own.low HB1.out.size⟩, hb0⟩
        · have hok : cplOk l = false := by rw [hs]; simpa using h16
          have hcv : cplV l = [] := by unfold cplV; rw [hok]; rfl
          go_wp2
          go_ret2
          exact ⟨⟨.slice none 0 0, by rw [hok]; rfl, by rw [hcv]; exact OwnO.nil_⟩, hb0⟩
set_option maxHeartbeats 1000000 in
theorem impl_Completed_any (A : Option Addr) (c : Nat) (l : List O3) (w : World) (hl : l.length ≤ 1048576) (hc : l.length ≤ c) (hR : RdO w w.heap.size A l) (hA : AddrOk A c := by first | assumption | exact .inr ⟨_, _, rfl⟩) :
    Calls Try.prog 45 #[.slice A l.length c] w fun e w' => (∃ v, e = .returned (.tuple #[v, .bool (cplOk l)]) ∧ OwnO w' w.heap.size 24 v (cplV l)) ∧ Below w.heap.size w w' := by
  have HM := Lib.hid (show l.length ≤ maxLen by unfold maxLen; omega)
  obtain ⟨i0, hi0, hz0, hz1, hz2⟩ := info_parts info_O
  cases hv : tt (ValidP l)
  · have hs : cplOk l = false := by unfold cplOk; rw [hv]; rfl
    have hs2 : cplV l = [] := by unfold cplV; rw [hs]; rfl
    rw [hs, hs2]
    have HV := Lib.hid hv; clear hv hs hs2
    go_enter Try.func45, Try.ntmps45
    go_wp2_with (go_at_call 19; refine (impl_ValidSchedule_any _ _ _ _ HM.out hc hR).mono ?_; rintro e w1 ⟨rfl, hb1⟩; rw [HV.out])
    go_ret2
    exact ⟨⟨_, rfl, OwnO.nil_⟩, by (repeat' (first | (with_reducible exact Below.refl _ _) | (with_reducible assumption) | (with_reducible refine Below.al ?_ _) | (with_reducible refine Below.drew ?_) | (with_reducible refine Below.drN ?_ _) | (with_reducible refine Below.via (by with_reducible assumption) ?_) | (with_reducible refine Below.setc ?_ ?_ _) | (with_reducible exact Nat.le_refl _) | (simp; done) | (simp; omega)))⟩
  · have hs : cplOk l = decide ((cplL l).length ≤ 16) := by unfold cplOk; rw [hv]; rfl
    have HV := Lib.hid hv
    have hP : ValidP l := tt_eq.1 hv
    have hl16 : l.length ≤ 16 := hP.1
    clear hv
    have ht4 := txs_le4 l
    go_enter Try.func45, Try.ntmps45
    go_wp2_with fail
    refine (impl_ValidSchedule_any _ _ _ _ HM.out hc hR).mono ?_
    rintro e w1 ⟨rfl, hb1⟩
    rw [HV.out]
    have R1 := Lib.hid (hR.on hb1)
    have HB1 := Lib.hid hb1; clear hb1
    go_wp2_with fail
    refine (Clone_Op_all A c l _ hA (by omega) R1.out).mono ?_
    rintro e w2 ⟨⟨A2, c2, rfl, hO2⟩, hb2⟩
    have HO2lt := Lib.hid (fun k hk => (hO2.lt k hk).2 : ∀ k, (Value.slice A2 l.length c2).ownBlock = some k → k < w2.heap.size)
    have HO2 := Lib.hid hO2; clear hO2
    have HB2 := Lib.hid hb2; clear hb2
    have R2 := Lib.hid (R1.out.on HB2.out)
    go_wp2_with fail
    refine (impl_txsOf_any _ _ _ _ (by omega) R2.out).mono ?_
    rintro e w3 ⟨⟨v3, rfl, hO3⟩, hb3⟩
    have HO3 := Lib.hid (HO2.out.on hb3); clear HO2
    obtain ⟨A3, c3, rfl, _, hR3, _⟩ := hO3.reads
    have HT3 := Lib.hid hO3; clear hO3 hR3
    have R3 := Lib.hid (R2.out.on hb3)
    have B3 := Lib.hid (show Below w1.heap.size w1 w3 from Below.via hb3 HB2.out)
    have hz3 := hb3.size
    have hz2' := HB2.out.size
    clear hb3
    go_wp2_with fail
    have hsep : ∀ k, (Value.slice A2 l.length c2).ownBlock = some k → (Value.slice A3 (txsL l).length c3).ownBlock ≠ some k := fun k h1 h2 => by
      have := (HO2lt.out k h1); have := (OwnG.own_lt HT3.out k h2).1; omega
    go_loopw [4, 15] (fun v i wr => ∃ (k : Nat) (A' : Option Addr) (c' : Nat), k ≤ (txsL l).length ∧ i = .int .i64 k ∧ v = .slice A' (cplTo l k).length c' ∧ AppO wr w1.heap.size 24 (.slice A' (cplTo l k).length c') (cplTo l k) ∧ Below w1.heap.size w1 wr ∧ OwnI wr w2.heap.size 3 (.slice A3 (txsL l).length c3) (txsL l) ∧ (∀ j, (Value.slice A' (cplTo l k).length c').ownBlock = some j → (Value.slice A3 (txsL l).length c3).ownBlock ≠ some j)) (fun _ i _ => (txsL l).length - (intOf i).toNat)
    case atStart => exact ⟨0, A2, c2, Nat.zero_le _, rfl, by rw [cplTo_0], by rw [cplTo_0]; exact HO3.out, B3.out, HT3.out, by rw [cplTo_0]; exact hsep⟩
    case round =>
      clear hsep HO3 HT3 B3
      obtain ⟨k, A', c', hk, rfl, rfl, hown, hbw, hT, hsep⟩ := hrel
      have HO := Lib.hid hown; clear hown
      have HB := Lib.hid hbw; clear hbw
      have HT := Lib.hid hT; clear hT
      have HS := Lib.hid hsep; clear hsep
      have hcl := cplTo_le l k
      have hsz := HB.out.size
      have hl4 : (cplTo l k).length ≤ 4194304 := by omega
      by_cases hlt : k < (txsL l).length
      · obtain ⟨b, off, he, hb, q0⟩ := HT.out.rd.at_ hlt
        subst he
        have hRw := R1.out.on HB.out
        cases e1 : (endL l (txsL l)[k] == -1)
        · have HN := Lib.hid (cplTo_no hlt e1)
          have hcases := endL_val l (txsL l)[k]
          simp at e1
          by_cases h2 : endL l (txsL l)[k] = 2
          · have HE := Lib.hid h2
            clear e1 h2 hcases
            go_wp2_with (go_at_call 66; refine (impl_endOf_any _ _ _ _ _ HM.out hRw).mono ?_; rintro e w4 ⟨rfl, hb4⟩; rw [HE.out])
            exact ⟨⟨k + 1, A', c', by omega, by go_num, by rw [HN.out], by rw [HN.out]; exact HO.out.on hb4, Below.via hb4 HB.out, HT.out.on hb4, by rw [HN.out]; exact HS.out⟩, by simp [intOf]; omega⟩
          · have HE := Lib.hid (show endL l (txsL l)[k] = 3 by omega)
            clear e1 h2 hcases
            go_wp2_with (go_at_call 66; refine (impl_endOf_any _ _ _ _ _ HM.out hRw).mono ?_; rintro e w4 ⟨rfl, hb4⟩; rw [HE.out])
            exact ⟨⟨k + 1, A', c', by omega, by go_num, by rw [HN.out], by rw [HN.out]; exact HO.out.on hb4, Below.via hb4 HB.out, HT.out.on hb4, by rw [HN.out]; exact HS.out⟩, by simp [intOf]; omega⟩
        · have HY := Lib.hid (cplTo_yes hlt e1)
          have hen : endL l (txsL l)[k] = -1 := by simpa using e1
          clear e1
          go_wp2_with fail
          refine (impl_endOf_any _ _ _ _ _ HM.out hRw).mono ?_
          rintro e w4 ⟨rfl, hb4⟩
          rw [hen]
          have HO4 := Lib.hid (HO.out.on hb4)
          have HT4 := Lib.hid (HT.out.on hb4)
          have B4 := Lib.hid (Below.via hb4 HB.out)
          have hsz4 := B4.out.size
          clear hb4
          go_wp2_with (at_builtin; refine wpList_app_oo _ 29 24 i0 rfl _ _ rfl Try.underlying29 hi0 hz0 hz1 hz2 w1.heap.size _ _ rfl HO4.out ⟨(txsL l)[k], 2, 0⟩ _ rfl (by first | rfl | simp) hl4 hsz4 ?_; intro A5 c5 w5 hO5 hg5 hv5 hb5)
          refine ⟨⟨k + 1, A5, c5, by omega, by go_num, by rw [HY.out]; simp, by rw [HY.out, List.length_append]; exact hO5, B4.out.trans hb5, far_of (HT4.out.alloc _) hg5 (fun j hj e => HS.out j e hj), ?_⟩, by simp [intOf]; omega⟩
          rw [HY.out, List.length_append]
          intro j hj hj2
          rcases hv5 with h | ⟨k5, h, hk5⟩
          · exact HS.out j (h.symm.trans hj) hj2
          · have := (OwnG.own_lt HT4.out j hj2).2
            have hj' : (Value.slice A5 ((cplTo l k).length + 1) c5).ownBlock = some j := hj
            rw [h] at hj'
            injection hj' with hj'
            omega
      · have hk' : k = (txsL l).length := by omega
        subst hk'
        rw [cplTo_all] at HO hcl ⊢
        have hb0 := Below.trans HB1.out (HB.out.mono HB1.out.size)
        have hcap := HO.out.cap.1
        by_cases h16 : (cplL l).length ≤ 16
        · have hok : cplOk l = true := by rw [hs]; simpa using h16
          have hcv : cplV l = cplL l := by unfold cplV; rw [hok]; rfl
          go_wp2_with (go_at_call 84; refine (Clip_Op_any _ _ _ _ hcap).mono ?_; rintro e w6 ⟨rfl, rfl⟩)
          go_ret2
          exact ⟨⟨.slice A' (cplL l).length (cplL l).length, by rw [hok]; rfl, by rw [hcv]; exact (HO.out.own.cut rfl).low HB1.out.size⟩, hb0⟩
        · have hok : cplOk l = false := by rw [hs]; simpa using h16
          have hcv : cplV l = [] := by unfold cplV; rw [hok]; rfl
          go_wp2
          go_ret2
          exact ⟨⟨.slice none 0 0, by rw [hok]; rfl, by rw [hcv]; exact OwnO.nil_⟩, hb0⟩
end Go.Proofs.Ytlcaadjlghbcpaa
