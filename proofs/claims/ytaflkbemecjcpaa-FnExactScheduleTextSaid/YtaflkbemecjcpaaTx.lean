/- The text of a schedule: contracts of ScheduleText, the reference's and the program's. -/
import Derived.Test.YtaflkbemecjcpaaJoin
import Derived.Test.YtaflkbemecjcpaaPl
namespace Go.Proofs.Ytaflkbemecjcpaa
set_option linter.unusedSimpArgs false
set_option linter.unusedVariables false
open Go.RowKit
def kB : ByteArray := ⟨#[114, 119, 99, 97]⟩
def dB : ByteArray := ⟨#[48, 49, 50, 51]⟩
def iB : ByteArray := ⟨#[120, 121, 122]⟩
def opT2 (n k : Nat) : ByteArray := kB.extract k (k + 1) ++ dB.extract n (n + 1)
def opT3 (n k m : Nat) : ByteArray := opT2 n k ++ iB.extract m (m + 1)
def opT (o : O3) : ByteArray := if endB o = true then opT2 o.tx.toNat o.kind.toNat else opT3 o.tx.toNat o.kind.toNat o.item.toNat
theorem dB10 {n : Nat} (h : n ≤ 3) : (⟨#[48, 49, 50, 51, 52, 53, 54, 55, 56, 57]⟩ : ByteArray).extract n (n + 1) = dB.extract n (n + 1) := by
  rcases (show n = 0 ∨ n = 1 ∨ n = 2 ∨ n = 3 by omega) with rfl | rfl | rfl | rfl <;> decide
set_option maxRecDepth 100000 in
set_option maxHeartbeats 1000000 in
theorem impl_text_any (n k m : Nat) (w : World) (hn : n ≤ 3) (hk : k ≤ 3) (hm : m ≤ 2) :
    Calls Try.prog 67 #[.agg #[.int .i64 n, .int .i64 k, .int .i64 m]] w fun e w' => e = .returned (.string (if k ≤ 1 then opT3 n k m else opT2 n k)) ∧ Below w.heap.size w w' := by
  have hn4 : (n : Int) + 1 ≤ 4 := by omega
  have hk4 : (k : Int) + 1 ≤ 4 := by omega
  have hm4 : (m : Int) + 1 ≤ 3 := by omega
  by_cases hk1 : k ≤ 1
  · have HA := Lib.hid (show accB ⟨(n : Int), k, m⟩ = true by simp [accB]; omega)
    rw [if_pos hk1]
    clear hk1
    go_enter Try.func67, Try.ntmps67
    go_wp2_with fail
    ((first | (with_reducible refine wp_region_from (by with_reducible assumption) follows (by kernel_rfl) ?_) | (refine wp_region_aft follows (by kernel_rfl) ?_)); (repeat (go_big_quiet_step (fail))); refine wpQuiet_nil ?_; intro _ hw'; obtain ⟨⟨w1, hb⟩, rfl⟩ := hw'; (try dsimp only); first | (replace hb := Below.via hb (by with_reducible assumption); (try clear hbc hbf hbz); obtain ⟨hbc, hbf, hbz⟩ := bcell hb) | (obtain ⟨hbc, hbf, hbz⟩ := bcell hb))
    go_wp2_with ((go_at_call 75; refine (impl_access_any _ _ _ _).mono ?_; rintro e w1 ⟨rfl, hb⟩; first | (replace hb := Below.via hb (by with_reducible assumption); (try clear hbc hbf hbz); obtain ⟨hbc, hbf, hbz⟩ := bcell hb) | (obtain ⟨hbc, hbf, hbz⟩ := bcell hb)); rw [HA.out])
    go_ret
    exact ⟨rfl, by (repeat' (first | (with_reducible exact Below.refl _ _) | (with_reducible assumption) | (with_reducible refine Below.al ?_ _) | (with_reducible refine Below.drew ?_) | (with_reducible refine Below.drN ?_ _) | (with_reducible refine Below.via (by with_reducible assumption) ?_) | (with_reducible refine Below.setc ?_ ?_ _) | (with_reducible exact Nat.le_refl _) | (simp; done) | (simp; omega)))⟩
  · have HA := Lib.hid (show accB ⟨(n : Int), k, m⟩ = false by simp [accB]; omega)
    rw [if_neg hk1]
    clear hk1
    go_enter Try.func67, Try.ntmps67
    go_wp2_with fail
    ((first | (with_reducible refine wp_region_from (by with_reducible assumption) follows (by kernel_rfl) ?_) | (refine wp_region_aft follows (by kernel_rfl) ?_)); (repeat (go_big_quiet_step (fail))); refine wpQuiet_nil ?_; intro _ hw'; obtain ⟨⟨w1, hb⟩, rfl⟩ := hw'; (try dsimp only); first | (replace hb := Below.via hb (by with_reducible assumption); (try clear hbc hbf hbz); obtain ⟨hbc, hbf, hbz⟩ := bcell hb) | (obtain ⟨hbc, hbf, hbz⟩ := bcell hb))
    go_wp2_with ((go_at_call 75; refine (impl_access_any _ _ _ _).mono ?_; rintro e w1 ⟨rfl, hb⟩; first | (replace hb := Below.via hb (by with_reducible assumption); (try clear hbc hbf hbz); obtain ⟨hbc, hbf, hbz⟩ := bcell hb) | (obtain ⟨hbc, hbf, hbz⟩ := bcell hb)); rw [HA.out])
    go_ret
    exact ⟨rfl, by (repeat' (first | (with_reducible exact Below.refl _ _) | (with_reducible assumption) | (with_reducible refine Below.al ?_ _) | (with_reducible refine Below.drew ?_) | (with_reducible refine Below.drN ?_ _) | (with_reducible refine Below.via (by with_reducible assumption) ?_) | (with_reducible refine Below.setc ?_ ?_ _) | (with_reducible exact Nat.le_refl _) | (simp; done) | (simp; omega)))⟩
set_option maxRecDepth 100000 in
set_option maxHeartbeats 1000000 in
theorem spec_opText_any (n k m : Nat) (w : World) (hn : n ≤ 3) (hk : k ≤ 3) (hm : m ≤ 2) :
    Calls Try.prog 91 #[.agg #[.int .i64 n, .int .i64 k, .int .i64 m]] w fun e w' => e = .returned (.string (if k ≤ 1 then opT3 n k m else opT2 n k)) ∧ Below w.heap.size w w' := by
  have hn4 : (n : Int) + 1 ≤ 10 := by omega
  have hk4 : (k : Int) + 1 ≤ 4 := by omega
  have hm4 : (m : Int) + 1 ≤ 3 := by omega
  by_cases hk1 : k ≤ 1
  · have HA := Lib.hid (show endB ⟨(n : Int), k, m⟩ = false by simp [endB]; omega)
    rw [if_pos hk1]
    clear hk1
    go_enter Try.func91, Try.ntmps91
    go_wp2_with fail
    ((first | (with_reducible refine wp_region_from (by with_reducible assumption) follows (by kernel_rfl) ?_) | (refine wp_region_aft follows (by kernel_rfl) ?_)); (repeat (go_big_quiet_step (fail))); refine wpQuiet_nil ?_; intro _ hw'; obtain ⟨⟨w1, hb⟩, rfl⟩ := hw'; (try dsimp only); first | (replace hb := Below.via hb (by with_reducible assumption); (try clear hbc hbf hbz); obtain ⟨hbc, hbf, hbz⟩ := bcell hb) | (obtain ⟨hbc, hbf, hbz⟩ := bcell hb))
    go_wp2_with ((go_at_call 70; refine (spec_ends_any _ _ _ _).mono ?_; rintro e w1 ⟨rfl, hb⟩; first | (replace hb := Below.via hb (by with_reducible assumption); (try clear hbc hbf hbz); obtain ⟨hbc, hbf, hbz⟩ := bcell hb) | (obtain ⟨hbc, hbf, hbz⟩ := bcell hb)); rw [HA.out])
    go_ret
    exact ⟨by unfold opT3 opT2; rw [← dB10 hn]; rfl, by (repeat' (first | (with_reducible exact Below.refl _ _) | (with_reducible assumption) | (with_reducible refine Below.al ?_ _) | (with_reducible refine Below.drew ?_) | (with_reducible refine Below.drN ?_ _) | (with_reducible refine Below.via (by with_reducible assumption) ?_) | (with_reducible refine Below.setc ?_ ?_ _) | (with_reducible exact Nat.le_refl _) | (simp; done) | (simp; omega)))⟩
  · have HA := Lib.hid (show endB ⟨(n : Int), k, m⟩ = true by simp [endB]; omega)
    rw [if_neg hk1]
    clear hk1
    go_enter Try.func91, Try.ntmps91
    go_wp2_with fail
    ((first | (with_reducible refine wp_region_from (by with_reducible assumption) follows (by kernel_rfl) ?_) | (refine wp_region_aft follows (by kernel_rfl) ?_)); (repeat (go_big_quiet_step (fail))); refine wpQuiet_nil ?_; intro _ hw'; obtain ⟨⟨w1, hb⟩, rfl⟩ := hw'; (try dsimp only); first | (replace hb := Below.via hb (by with_reducible assumption); (try clear hbc hbf hbz); obtain ⟨hbc, hbf, hbz⟩ := bcell hb) | (obtain ⟨hbc, hbf, hbz⟩ := bcell hb))
    go_wp2_with ((go_at_call 70; refine (spec_ends_any _ _ _ _).mono ?_; rintro e w1 ⟨rfl, hb⟩; first | (replace hb := Below.via hb (by with_reducible assumption); (try clear hbc hbf hbz); obtain ⟨hbc, hbf, hbz⟩ := bcell hb) | (obtain ⟨hbc, hbf, hbz⟩ := bcell hb)); rw [HA.out])
    go_ret
    exact ⟨by unfold opT2; rw [← dB10 hn]; rfl, by (repeat' (first | (with_reducible exact Below.refl _ _) | (with_reducible assumption) | (with_reducible refine Below.al ?_ _) | (with_reducible refine Below.drew ?_) | (with_reducible refine Below.drN ?_ _) | (with_reducible refine Below.via (by with_reducible assumption) ?_) | (with_reducible refine Below.setc ?_ ?_ _) | (with_reducible exact Nat.le_refl _) | (simp; done) | (simp; omega)))⟩
/-! ### lists of texts -/
def opV (o : O3) : ByteArray := if o.kind.toNat ≤ 1 then opT3 o.tx.toNat o.kind.toNat o.item.toNat else opT2 o.tx.toNat o.kind.toNat
theorem valid_nums {o : O3} (h : validB o = true) : ∃ n k m : Nat, o.tx = n ∧ o.kind = k ∧ o.item = m ∧ n ≤ 3 ∧ k ≤ 3 ∧ m ≤ 2 := by
  simp only [validB, Bool.and_eq_true, Bool.or_eq_true, beq_iff_eq, inR, decide_eq_true_eq, accB, endB] at h
  obtain ⟨ht, h⟩ := h
  exact ⟨o.tx.toNat, o.kind.toNat, o.item.toNat, by omega, by rcases h with h | h <;> omega, by rcases h with h | h <;> omega, by omega, by rcases h with h | h <;> omega, by rcases h with h | h <;> omega⟩
theorem opV_eq {o : O3} {n k m : Nat} (hn : o.tx = n) (hk : o.kind = k) (hm : o.item = m) : opV o = if k ≤ 1 then opT3 n k m else opT2 n k := by
  unfold opV; rw [hn, hk, hm]; simp only [Int.toNat_natCast]
def txS (l : List O3) (k : Nat) : List ByteArray := (l.take k).map opV
theorem txS_succ {l : List O3} {k : Nat} (hk : k < l.length) : txS l (k + 1) = txS l k ++ [opV l[k]] := by
  unfold txS; rw [List.take_succ_eq_append_getElem hk, List.map_append]; rfl
theorem txS_len (l : List O3) (k : Nat) (hk : k ≤ l.length) : (txS l k).length = k := by unfold txS; rw [List.length_map, List.length_take]; omega
/-- The reference's text behind the first k operations. -/
def txT (l : List O3) : Nat → ByteArray
  | 0 => ⟨#[]⟩
  | k + 1 => if h : k < l.length then (if 0 < k then txT l k ++ ⟨#[44]⟩ else txT l k) ++ opV l[k] else txT l k
theorem txT_first {l : List O3} (h : 0 < l.length) : txT l 1 = txT l 0 ++ opV l[0] := by
  show (if h : 0 < l.length then (if 0 < 0 then txT l 0 ++ ⟨#[44]⟩ else txT l 0) ++ opV l[0] else txT l 0) = _
  rw [dif_pos h, if_neg (by omega)]
theorem txT_more {l : List O3} {k : Nat} (hk : k < l.length) (h0 : 0 < k) : txT l (k + 1) = (txT l k ++ ⟨#[44]⟩) ++ opV l[k] := by rw [txT, dif_pos hk, if_pos h0]
theorem join_snoc (x y sep : List UInt8) (r : List (List UInt8)) : Lib.join ((x :: r) ++ [y]) sep = Lib.join (x :: r) sep ++ (sep ++ y) := by
  rw [List.cons_append, Lib.join_cons, Lib.join_cons, List.append_assoc]
  congr 1
  unfold Lib.joinTail
  rw [List.map_append, List.flatten_append]
  simp
theorem tl_app (a b : ByteArray) : (a ++ b).data.toList = a.data.toList ++ b.data.toList := by simp
theorem tx_join (l : List O3) : ∀ k, k ≤ l.length → (txT l k).data.toList = Lib.join ((txS l k).map (·.data.toList)) [44]
  | 0, _ => rfl
  | 1, h => by
    rw [txT_first (by omega), txS_succ (by omega)]
    simp [txS, txT, Lib.join_one]
  | k + 2, h => by
    have ih := tx_join l (k + 1) (by omega)
    rw [txT_more (by omega) (by omega), txS_succ (by omega), List.map_append, List.map_cons, List.map_nil]
    have hne : (txS l (k + 1)).map (·.data.toList) ≠ [] := fun e => by
      have := congrArg List.length e
      rw [List.length_map, txS_len l (k + 1) (by omega)] at this
      simp at this
    cases hx : (txS l (k + 1)).map (·.data.toList) with
    | nil => exact absurd hx hne
    | cons x r =>
      rw [join_snoc, ← hx, ← ih, tl_app, tl_app, List.append_assoc]
theorem txt_eq (l : List O3) : (⟨(Lib.join ((txS l l.length).map (·.data.toList)) [44]).toArray⟩ : ByteArray) = txT l l.length := by
  rw [← tx_join l l.length (Nat.le_refl _)]
noncomputable def txV (l : List O3) : ByteArray := if tt (ValidP l) = true then txT l l.length else ⟨#[]⟩
theorem opT2_size (n k : Nat) : (opT2 n k).size ≤ 8 := by
  unfold opT2
  rw [ByteArray.size_append, ByteArray.size_extract, ByteArray.size_extract]
  have h1 : kB.size = 4 := rfl
  have h2 : dB.size = 4 := rfl
  rw [h1, h2]
  omega
theorem opV_size (o : O3) : (opV o).size ≤ 16 := by
  unfold opV
  have h := opT2_size o.tx.toNat o.kind.toNat
  split
  · unfold opT3
    rw [ByteArray.size_append, ByteArray.size_extract]
    have h1 : iB.size = 3 := rfl
    rw [h1]
    omega
  · omega
theorem txT_size (l : List O3) : ∀ k, (txT l k).size ≤ 17 * k
  | 0 => by simp [txT, ByteArray.size]
  | k + 1 => by
    have ih := txT_size l k
    unfold txT
    split
    · rename_i h
      have := opV_size l[k]
      split
      · rw [ByteArray.size_append, ByteArray.size_append]
        have e : (⟨#[44]⟩ : ByteArray).size = 1 := rfl
        omega
      · rw [ByteArray.size_append]; omega
    · omega
set_option maxRecDepth 100000 in
set_option maxHeartbeats 1000000 in
theorem spec_scheduleText_any (A : Option Addr) (c : Nat) (l : List O3) (w : World) (hl16 : l.length ≤ 16) (hv : ∀ o ∈ l, validB o = true) (hR : RdO w w.heap.size A l) :
    Calls Try.prog 66 #[.slice A l.length c] w fun e w' => e = .returned (.string (txT l l.length)) ∧ Below w.heap.size w w' := by
  have HV := Lib.hid hv; clear hv
  go_enter Try.func66, Try.ntmps66
  go_wp2_with fail
  go_loopw [3, 4] (fun v3 v4 wr => ∃ k : Nat, k ≤ l.length ∧ v4 = .int .i64 k ∧ v3 = .string (txT l k) ∧ Below w.heap.size w wr) (fun _ v4 _ => l.length - (intOf v4).toNat)
  case atStart => exact ⟨0, Nat.zero_le _, rfl, rfl, Below.refl _ _⟩
  case round =>
    obtain ⟨k, hk, rfl, rfl, hbw⟩ := hrel
    have HB := Lib.hid hbw; clear hbw
    have hsz := txT_size l k
    by_cases hlt : k < l.length
    · obtain ⟨b, off, rfl, hb, h0, h1, h2⟩ := (hR.on HB.out).at_ hlt
      obtain ⟨n, kk, m, e0, e1, e2, hn, hk3, hm⟩ := valid_nums (HV.out _ (List.getElem_mem hlt))
      have HE := Lib.hid (opV_eq e0 e1 e2)
      rw [e0] at h0
      rw [e1] at h1
      rw [e2] at h2
      clear e0 e1 e2
      have hov := opV_size l[k]
      have hs1 : ¬ 9223372036854775807 < (txT l k).size + 1 + (opV l[k]).size := by omega
      have hs2 : ¬ 9223372036854775807 < (txT l k).size + (opV l[k]).size := by omega
      have hs3 : ¬ 9223372036854775807 < (txT l k).size + 1 := by omega
      clear hov hsz
      by_cases hk0 : (0 : Int) < k
      · have HT := Lib.hid (txT_more hlt (by omega))
        go_wp2_with (go_at_call 91; refine (spec_opText_any n kk m _ hn hk3 hm).mono ?_; rintro e w1 ⟨rfl, hb1⟩; rw [← HE.out])
        all_goals first | (exfalso; omega) | exact ⟨⟨k + 1, by omega, by go_num, by rw [HT.out], Below.trans HB.out (hb1.mono HB.out.size)⟩, by simp [intOf]; omega⟩
      · have HT := Lib.hid (show txT l (k + 1) = txT l k ++ opV l[k] by
          have e : k = 0 := by omega
          subst e; exact txT_first hlt)
        go_wp2_with (go_at_call 91; refine (spec_opText_any n kk m _ hn hk3 hm).mono ?_; rintro e w1 ⟨rfl, hb1⟩; rw [← HE.out])
        all_goals first | (exfalso; omega) | exact ⟨⟨k + 1, by omega, by go_num, by rw [HT.out], Below.trans HB.out (hb1.mono HB.out.size)⟩, by simp [intOf]; omega⟩
    · have hk' : k = l.length := by omega
      have HK := Lib.hid hk'; clear hk'
      go_wp2
      go_ret
      exact ⟨congrArg (fun s => Ending.returned (.string s)) (show txT l k = txT l l.length by rw [HK.out]), HB.out⟩
/-! ### the program's: a list of texts, joined -/
def cellsS (l : List ByteArray) : List Value := l.map Value.string
def AppS (w : World) (base : Nat) (E : TypeId) (v : Value) (l : List ByteArray) : Prop := w.ownsRow base E 1 v l.length (cellsS l)
theorem info_Str : (Try.prog.info? 9).map (fun i => (i.zero, i.size, i.bytes)) = some (some (.string ⟨#[]⟩), 1, 16) := by kernel_rfl
section
variable {P : Program} {ops : Array Oper} {rest : List Oper} {o : Oper} {a : Act} {Q : Exit → Act → World → Prop}
theorem wpList_app_s (W : World) (T E : TypeId) (i : TypeInfo) (hgd : o.guard = none) (s x : Operand)
    (ho : o.op = .call { callee := .builtin .append, args := #[s, x], argTypes := #[T, T] })
    (ht : P.underlying T = some (.slice E)) (hi : P.info? E = some i) (hz : i.zero = some (.string ⟨#[]⟩)) (hsize : i.size = 1) (hby : i.bytes = 16)
    (base : Nat) (v : Value) (l : List ByteArray) (hs : a.eval s = v) (hown : AppS W base E v l)
    (p : ByteArray) (g : Nat) (hx : a.eval x = .slice (some ⟨g, 0, none⟩) 1 1) (hgW : g = W.heap.size) (hlen : l.length ≤ 4194304) (hbase : base ≤ W.heap.size)
    (h : ∀ A' c' w', AppS w' base E (.slice A' (l.length + 1) c') (l ++ [p]) → Below base W w' → wpList P ops Q rest (a.put o.dst (.slice A' (l.length + 1) c')) w') :
    wpList P ops Q (o :: rest) a (W.alloc (.cells #[.string p] E)) := by
  subst hgW
  have hal : (W.alloc (.cells #[.string p] E)).ownsRow base E 1 v l.length (cellsS l) := row_kept hown (fun k hk => Below.heap_alloc W _ k hk)
  refine wpList_append_own _ hgd s x T ho base E i _ 1 16 ht hi hz hsize hby rfl (by decide) v l.length (cellsS l) hs hal ⟨W.heap.size, 0, none⟩ 1 1 [.string p] hx rfl (cell_one_new _ _ _) ?_ ?_ ?_ ?_ ?_
  · intro u hu; simp at hu; subst hu; rfl
  · unfold maxLen; omega
  · omega
  · simp; omega
  · intro v' w' h1 h2 _
    obtain ⟨A', c', rfl, _⟩ := row_form h1
    refine h A' c' w' (by unfold AppS cellsS; rw [List.length_append, List.map_append]; exact h1) ?_
    exact Below.grown ((Below.refl _ _).alloc hbase _) h2 (by simp; omega) (fun k hk => (hown.lt k hk).1)
end
set_option maxRecDepth 100000 in
set_option maxHeartbeats 2000000 in
theorem impl_ScheduleText_any (A : Option Addr) (c : Nat) (l : List O3) (w : World) (hl : l.length ≤ maxLen) (hc : l.length ≤ c) (hR : RdO w w.heap.size A l) :
    Calls Try.prog 36 #[.slice A l.length c] w fun e w' => e = .returned (.string (txV l)) ∧ Below w.heap.size w w' := by
  have HM := Lib.hid hl; clear hl
  cases hv : tt (ValidP l)
  · have hs : txV l = ⟨#[]⟩ := by unfold txV; rw [hv]; rfl
    rw [hs]
    have HV := Lib.hid hv; clear hv hs
    go_enter Try.func36, Try.ntmps36
    go_wp2_with (go_at_call 21; refine (impl_ValidSchedule_any _ _ _ _ HM.out hc hR).mono ?_; rintro e w1 ⟨rfl, hb1⟩; rw [HV.out])
    go_ret
    exact ⟨rfl, by (repeat' (first | (with_reducible exact Below.refl _ _) | (with_reducible assumption) | (with_reducible refine Below.al ?_ _) | (with_reducible refine Below.drew ?_) | (with_reducible refine Below.drN ?_ _) | (with_reducible refine Below.via (by with_reducible assumption) ?_) | (with_reducible refine Below.setc ?_ ?_ _) | (with_reducible exact Nat.le_refl _) | (simp; done) | (simp; omega)))⟩
  · have hs : txV l = txT l l.length := by unfold txV; rw [hv]; rfl
    rw [hs]
    have HV := Lib.hid hv
    have hP : ValidP l := tt_eq.1 hv
    have hl16 := hP.1
    have HVA := Lib.hid (fun o (ho : o ∈ l) => show validB o = true by obtain ⟨k, hk, rfl⟩ := List.getElem_of_mem ho; exact (hP.2 k hk).2.1)
    clear hv hs hP
    obtain ⟨i0, hi0, hz0, hz1, hz2⟩ := info_parts info_Str
    have H1 := Lib.hid (show i0.bytes * l.length ≤ 281474976710656 by rw [hz2]; omega)
    have H2 := Lib.hid (show l.length ≤ maxLen by unfold maxLen; omega)
    go_enter Try.func36, Try.ntmps36
    go_wp2_with (first | (go_at_call 21; refine (impl_ValidSchedule_any _ _ _ _ HM.out hc hR).mono ?_; rintro e w1 ⟨rfl, hb1⟩; rw [HV.out]) | (at_make; refine wpList_make_own _ rfl _ _ 69 rfl w.heap.size 9 i0 _ 1 Try.underlying69 hi0 hz0 hz1 .i64 .i64 _ l.length rfl rfl rfl H1.out H2.out hb1.size ?_; intro W hO hg))
    have hbW : Below w.heap.size w W := hb1.grown hg hb1.size (by simp)
    have hO0 : AppS W w.heap.size 9 (.slice (some ⟨w1.heap.size, 0, none⟩) 0 l.length) [] := hO
    clear hb1 hg hO
    go_loopw [3, 5, 14] (fun v3 _ v14 wr => ∃ (k : Nat) (A' : Option Addr) (c' : Nat), k ≤ l.length ∧ v14 = .int .i64 k ∧ v3 = .slice A' (txS l k).length c' ∧ AppS wr w.heap.size 9 (.slice A' (txS l k).length c') (txS l k) ∧ Below w.heap.size w wr) (fun _ _ v14 _ => l.length - (intOf v14).toNat)
    case atStart => exact ⟨0, _, _, Nat.zero_le _, rfl, rfl, hO0, hbW⟩
    case round =>
      clear hO0 hbW
      obtain ⟨k, A', c', hk, rfl, rfl, hown, hbw⟩ := hrel
      have HO := Lib.hid hown; clear hown
      have HB := Lib.hid hbw; clear hbw
      have hsz := HB.out.size
      have htl := txS_len l k hk
      by_cases hlt : k < l.length
      · obtain ⟨b, off, rfl, hb, h0, h1, h2⟩ := (hR.on HB.out).at_ hlt
        obtain ⟨n, kk, m, e0, e1, e2, hn, hk3, hm⟩ := valid_nums (HVA.out _ (List.getElem_mem hlt))
        have HE := Lib.hid (opV_eq e0 e1 e2)
        have HT := Lib.hid (txS_succ hlt)
        have hlen : (txS l k).length ≤ 4194304 := by omega
        have HTL := Lib.hid htl
        rw [e0] at h0
        rw [e1] at h1
        rw [e2] at h2
        clear e0 e1 e2 htl
        go_wp2_with (first
          | (go_at_call 67; refine (impl_text_any n kk m _ hn hk3 hm).mono ?_; rintro e w2 ⟨rfl, hb2⟩; rw [← HE.out]; have hbq : Below wr.heap.size wr w2 := (by (repeat' (first | (with_reducible exact Below.refl _ _) | (with_reducible assumption) | (with_reducible refine Below.al ?_ _) | (with_reducible refine Below.drew ?_) | (with_reducible refine Below.drN ?_ _) | (with_reducible refine Below.via (by with_reducible assumption) ?_) | (with_reducible refine Below.setc ?_ ?_ _) | (with_reducible exact Nat.le_refl _) | (simp; done) | (simp; omega)))); have HO2 := Lib.hid (show AppS w2 w.heap.size 9 (.slice A' (txS l k).length c') (txS l k) from row_kept HO.out hbq.block); have hsq := hbq.size)
          | (at_builtin; refine wpList_app_s _ 69 9 i0 rfl _ _ rfl Try.underlying69 hi0 hz0 hz1 hz2 w.heap.size _ _ rfl HO2.out (opV l[k]) _ rfl (by first | rfl | simp) hlen (by omega) ?_; intro A9 c9 w9 hO9 hb9))
        exact ⟨⟨k + 1, A9, c9, by omega, by go_num, by rw [HT.out, List.length_append]; rfl, by rw [HT.out, List.length_append]; exact hO9, Below.trans HB.out (Below.trans (hbq.mono hsz) hb9)⟩, by simp [intOf]; omega⟩
      · have hk' : k = l.length := by omega
        obtain ⟨Ac, cc, hec, hcap⟩ := row_form HO.out
        injection hec with hec1 _ hec2
        subst hec1 hec2
        have HTE := Lib.hid (show (⟨(Lib.join ((txS l l.length).map (·.data.toList)) (⟨#[44]⟩ : ByteArray).data.toList).toArray⟩ : ByteArray) = txT l l.length from txt_eq l)
        have HTJ := Lib.hid (tx_join l l.length (Nat.le_refl _))
        have hts := txT_size l l.length
        rw [hk'] at HO htl hcap ⊢
        clear hk' hlt hk
        by_cases hz : l.length = 0
        · have hn0 : (txS l l.length).length = 0 := by rw [htl, hz]
          have HZ := Lib.hid (show txT l l.length = ⟨#[]⟩ by rw [hz]; rfl)
          rw [hn0] at hcap ⊢
          go_wp2_with fail
          refine (strings_Join_none _ _ _ _).mono ?_
          rintro e w9 ⟨rfl, rfl⟩
          go_wp2
          go_ret
          exact ⟨congrArg (fun s => Ending.returned (.string s)) HZ.out.symm, HB.out⟩
        · have hOG := OwnG.of_row HO.out
          have hA : ∃ g, A' = some ⟨g, 0, none⟩ := by
            rcases hOG with ⟨e, hn, _⟩ | ⟨g, cap, cur, e, _⟩
            · exact absurd hn (by rw [htl]; exact hz)
            · injection e with e1 _ _
              exact ⟨g, e1⟩
          obtain ⟨g, rfl⟩ := hA
          obtain ⟨_, hg2, _, _, hcl, _⟩ := OwnG.at_ hOG
          have HCL := Lib.hid (show ∀ (j : Nat) x, (txS l l.length)[j]? = some x → wr.cell? ⟨g, 0 + j, none⟩ = some (.string x) from fun j x hj => by
            rw [Nat.zero_add, hcl j (by simp [cellsS]; exact (List.getElem?_eq_some_iff.1 hj).1)]
            simp [cellsS, hj])
          have HJL := Lib.hid (show (Lib.join ((txS l l.length).map (·.data.toList)) (⟨#[44]⟩ : ByteArray).data.toList).length ≤ 140737488355328 by
            show (Lib.join ((txS l l.length).map (·.data.toList)) [44]).length ≤ _
            rw [← HTJ.out]
            have e : (txT l l.length).data.toList.length = (txT l l.length).size := rfl
            rw [e]; omega)
          have hj := strings_Join_any g 0 _ (txS l l.length) ⟨#[44]⟩ _ HCL.out hg2 (by omega) hcap HJL.out
          rw [htl] at hj
          have HJ := Lib.hid hj
          clear hOG hcl hj
          go_wp2_with fail
          refine (HJ.out).mono ?_
          rintro e w9 ⟨rfl, hb9⟩
          rw [HTE.out]
          go_wp2
          go_ret
          exact ⟨rfl, Below.trans HB.out (hb9.mono HB.out.size)⟩
set_option maxRecDepth 100000 in
set_option maxHeartbeats 1000000 in
theorem spec_ScheduleText_any (A : Option Addr) (c : Nat) (l : List O3) (w : World) (hl : l.length ≤ maxLen) (hR : RdO w w.heap.size A l) :
    Calls Try.prog 35 #[.slice A l.length c] w fun e w' => e = .returned (.string (txV l)) ∧ Below w.heap.size w w' := by
  have HM := Lib.hid hl; clear hl
  cases hv : tt (ValidP l)
  · have hs : txV l = ⟨#[]⟩ := by unfold txV; rw [hv]; rfl
    rw [hs]
    have HV := Lib.hid hv; clear hv hs
    go_enter Try.func35, Try.ntmps35
    go_wp2_with (go_at_call 37; refine (spec_validSchedule_any _ _ _ _ HM.out hR).mono ?_; rintro e w1 ⟨rfl, hb1⟩; rw [HV.out])
    go_ret
    exact ⟨rfl, by (repeat' (first | (with_reducible exact Below.refl _ _) | (with_reducible assumption) | (with_reducible refine Below.al ?_ _) | (with_reducible refine Below.drew ?_) | (with_reducible refine Below.drN ?_ _) | (with_reducible refine Below.via (by with_reducible assumption) ?_) | (with_reducible refine Below.setc ?_ ?_ _) | (with_reducible exact Nat.le_refl _) | (simp; done) | (simp; omega)))⟩
  · have hs : txV l = txT l l.length := by unfold txV; rw [hv]; rfl
    rw [hs]
    have HV := Lib.hid hv
    have hP : ValidP l := tt_eq.1 hv
    have hl16 := hP.1
    have HVA := Lib.hid (fun o (ho : o ∈ l) => show validB o = true by obtain ⟨k, hk, rfl⟩ := List.getElem_of_mem ho; exact (hP.2 k hk).2.1)
    clear hv hs hP
    go_enter Try.func35, Try.ntmps35
    go_wp2_with (first | (go_at_call 37; refine (spec_validSchedule_any _ _ _ _ HM.out hR).mono ?_; rintro e w1 ⟨rfl, hb1⟩; rw [HV.out]) | (go_at_call 66; refine (spec_scheduleText_any _ _ _ _ hl16 HVA.out (hR.on hb1)).mono ?_; rintro e w2 ⟨rfl, hb2⟩))
    go_ret
    exact ⟨rfl, by (repeat' (first | (with_reducible exact Below.refl _ _) | (with_reducible assumption) | (with_reducible refine Below.al ?_ _) | (with_reducible refine Below.drew ?_) | (with_reducible refine Below.drN ?_ _) | (with_reducible refine Below.via (by with_reducible assumption) ?_) | (with_reducible refine Below.setc ?_ ?_ _) | (with_reducible exact Nat.le_refl _) | (simp; done) | (simp; omega)))⟩
end Go.Proofs.Ytaflkbemecjcpaa
