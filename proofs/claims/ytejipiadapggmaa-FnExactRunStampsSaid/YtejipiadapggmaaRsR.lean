/- RunStamps: the program's walk. -/
import Derived.Test.YtejipiadapggmaaRsT
namespace Go.Proofs.Ytejipiadapggmaa
set_option linter.unusedSimpArgs false
set_option linter.unusedVariables false
open Go.RowKit Go.Conc
theorem opVs_zero {l : List O3} {k : Nat} (hk : k < l.length) : (opVs (l.drop k)).getD 0 undef = .agg #[.int .i64 l[k].tx, .int .i64 l[k].kind, .int .i64 l[k].item] := by
  unfold opVs; rw [List.drop_eq_getElem_cons hk]; rfl
theorem opVs_next (l : List O3) (k : Nat) : (opVs (l.drop k)).extract 1 (opVs (l.drop k)).size = opVs (l.drop (k + 1)) := by
  unfold opVs
  apply Array.ext'
  simp
  exact List.take_of_length_le (by simp; omega)
theorem rsOut_vals (skip : Bool) (rd wr : Int → Int) (o : O3) (a : Int) : rsOut skip rd wr o a = 0 ∨ rsOut skip rd wr o a = 1 ∨ rsOut skip rd wr o a = 2 := by
  unfold rsOut
  repeat' split
  all_goals simp
/-- How much is left in a channel. -/
def chLeft (w : World) (ch : Nat) : Nat := match w.heap[ch]? with | some (.chan _ buf _ _ _ _) => buf.size | _ => 0
theorem chLeft_is {w : World} {ch cap n m : Nat} {buf : Array Value} {cl tm : Bool} (h : w.heap[ch]? = some (.chan cap buf cl n m tm)) : chLeft w ch = buf.size := by unfold chLeft; rw [h]
theorem grown_setChan (w : World) (c cap : Nat) (buf : Array Value) (cl : Bool) (s r : Nat) (tm : Bool) : w.grownBy (w.setChan c cap buf cl s r tm) (some c) :=
  ⟨rfl, rfl, rfl, by rw [size_setChan]; exact Nat.le_refl _, fun k _ hk => by simp only [World.setChan]; rw [Array.getElem?_setIfInBounds_ne (by simpa using fun e => hk (by rw [e]))]⟩
theorem own_cap (A : Option Addr) (n c n' c' : Nat) : (Value.slice A n c).ownBlock = (Value.slice A n' c').ownBlock := by cases A <;> rfl
set_option maxHeartbeats 400000 in
theorem rs_Clip_O (A : Option Addr) (n c : Nat) (w : World) (hn : n ≤ c) :
    Calls Try.prog 46 #[.slice A n c] w fun e w' => e = .returned (.slice A n n) ∧ w = w' := by
  go_enter Try.func46, Try.ntmps46
  go_wp2
  go_ret
  exact ⟨rfl, rfl⟩
set_option maxHeartbeats 400000 in
theorem rs_Clip_I (A : Option Addr) (n c : Nat) (w : World) (hn : n ≤ c) :
    Calls Try.prog 36 #[.slice A n c] w fun e w' => e = .returned (.slice A n n) ∧ w = w' := by
  go_enter Try.func36, Try.ntmps36
  go_wp2
  go_ret
  exact ⟨rfl, rfl⟩
set_option maxRecDepth 8192 in
set_option maxHeartbeats 4000000 in
theorem impl_RunStamps_any (A : Option Addr) (c : Nat) (l : List O3) (skip : Bool) (w : World) (hl : l.length ≤ 1048576) (hc : l.length ≤ c) (hR : RdO w w.heap.size A l) :
    Calls Try.prog 19 #[.slice A l.length c, .bool skip] w fun e w' => (∃ v1 v2, e = .returned (.tuple #[v1, v2]) ∧ RsP w' w.heap.size v1 v2 (rsD l skip) (rsX l skip)) ∧ Below w.heap.size w w' := by
  have HM := Lib.hid (show l.length ≤ maxLen by unfold maxLen; omega)
  cases hk : lkOk l
  · rw [rsD, rsX, hk]
    have HK := Lib.hid hk
    clear hk
    go_enter Try.func19, Try.ntmps19
    go_wp2_with (go_at_call 41; refine (impl_runnable_any _ _ l _ HM.out hc hR).mono ?_; rintro e w1 ⟨rfl, hb1⟩; rw [HK.out])
    go_ret2
    exact ⟨⟨_, _, rfl, RsP.nil_ _ _⟩, by (repeat' (first | (with_reducible exact Below.refl _ _) | (with_reducible assumption) | (with_reducible refine Below.al ?_ _) | (with_reducible refine Below.drew ?_) | (with_reducible refine Below.drN ?_ _) | (with_reducible refine Below.via (by with_reducible assumption) ?_) | (with_reducible refine Below.setc ?_ ?_ _) | (with_reducible exact Nat.le_refl _) | (simp; done) | (simp; omega)))⟩
  · rw [rsD, rsX, hk]
    have HK := Lib.hid hk
    have HVL := Lib.hid (rs_ok hk).1
    have h12 := (rs_ok hk).2
    clear hk hl
    obtain ⟨i0, hi0, hz0, hz1, hz2⟩ := info_parts info_O
    obtain ⟨j0, hj0, hy0, hy1, hy2⟩ := info_parts info_I
    go_enter Try.func19, Try.ntmps19
    go_wp2_with fail
    refine (impl_runnable_any _ _ l _ HM.out hc hR).mono ?_
    rintro e w1 ⟨rfl, hb1⟩
    rw [HK.out]
    go_wp2_with fail
    refine (impl_marksOf_any _).mono ?_
    rintro e w2 ⟨⟨g, rfl, hgg, hM⟩, hb2⟩
    rw [World.size_alloc, World.size_alloc] at hgg
    go_wp2_with fail
    have hb0 : Below w.heap.size w w2 := Below.via hb2 (by (repeat' (first | (with_reducible exact Below.refl _ _) | (with_reducible assumption) | (with_reducible refine Below.al ?_ _) | (with_reducible refine Below.drew ?_) | (with_reducible refine Below.drN ?_ _) | (with_reducible refine Below.via (by with_reducible assumption) ?_) | (with_reducible refine Below.setc ?_ ?_ _) | (with_reducible exact Nat.le_refl _) | (simp; done) | (simp; omega))))
    refine (impl_stream_any _ _ l _ h12 (hR.on hb0)).mono ?_
    rintro e w3 ⟨⟨ch, n, m, rfl, hcg, hC⟩, hb3⟩
    have hgl := hM.lt
    have hB0 : Below w.heap.size w w3 := Below.via hb3 hb0
    have hs1 : w.heap.size ≤ w1.heap.size := hb1.size
    have hM0 : MkAt w3 g 0 (fun _ => -1) (fun _ => -1) := hM.on hb3
    have hchl := lt_of_block hC
    have hT0 : Two2 w3 w.heap.size (.slice (some ⟨w1.heap.size, 0, none⟩) 0 0) (.slice (some ⟨w1.heap.size + 1, 0, none⟩) 0 0) [] [] [g, ch] := by
      have h1 := ((AppO.made (w := w1) (base := w.heap.size) (E := 60) hs1 #[] 0 (by simp [maxLen]) rfl).alloc (Obj.cells #[] 3))
      have h2 := (AppI.made (w := w1.alloc (Obj.cells #[] 60)) (base := w.heap.size) (E := 3) (by simp; omega) #[] 0 (by simp [maxLen]) rfl)
      rw [World.size_alloc] at h2
      refine ⟨(h1.on hb2).on hb3, (h2.on hb2).on hb3, ?_, ?_⟩
      · intro k e1 e2
        simp [Value.ownBlock] at e1 e2
        omega
      · intro b m
        have hz := hb3.size
        simp at m
        rcases m with rfl | rfl <;> refine ⟨by omega, by omega, by simp [Value.ownBlock]; omega, by simp [Value.ownBlock]; omega⟩
    have hgc : g ≠ ch := by omega
    clear hM hb0 hb2 hb3 hcg hgg hgl hs1 hb1
    go_wp2_with fail
    go_loopw [6, 7, 9, 10, 11] (fun v6 v7 _ _ _ wr => ∃ (k : Nat) (done : List O3) (dead : List Int) (rd wm : Int → Int) (A1 : Option Addr) (c1 : Nat) (A2 : Option Addr) (c2 : Nat) (n m : Nat), k ≤ l.length ∧ v6 = .slice A1 done.length c1 ∧ v7 = .slice A2 dead.length c2 ∧ rsTo l skip k = ⟨done, dead, rd, wm⟩ ∧ Two2 wr w.heap.size (.slice A1 done.length c1) (.slice A2 dead.length c2) done dead [g, ch] ∧ MkAt wr g 0 rd wm ∧ wr.heap[ch]? = some (.chan l.length (opVs (l.drop k)) true n m false) ∧ Below w.heap.size w wr) (fun _ _ _ _ _ wr => chLeft wr ch)
    case atStart => exact ⟨0, [], [], fun _ => -1, fun _ => -1, _, _, _, _, n, m, Nat.zero_le _, rfl, rfl, rfl, hT0, hM0, by rw [List.drop_zero]; exact hC, hB0⟩
    case round =>
      obtain ⟨k, done, dead, rd, wm, A1, c1, A2, c2, n', m', hk, rfl, rfl, hrs, hT, hM, hCh, hbw⟩ := hrel
      clear hT0 hM0 hB0 hC hchl n m
      have HRS := Lib.hid hrs
      have HT := Lib.hid hT
      have HM1 := Lib.hid hM
      have HC := Lib.hid hCh
      have HB := Lib.hid hbw
      clear hrs hT hM hCh hbw
      by_cases hlt : k < l.length
      · have HSZ := Lib.hid (show 0 < (opVs (l.drop k)).size by rw [opVs_size]; simp; omega)
        go_upto_region 6 with fail
        refine wp_recv2 (id := 6) (v1 := .bool true) (z := .agg #[.int .i64 0, .int .i64 0, .int .i64 0]) rfl rfl ?_ HC.out HSZ.out ?_ ?_
        · go_simp; rfl
        · go_simp
        rw [opVs_zero hlt, opVs_next]
        have hval := HVL.out _ (List.getElem_mem hlt)
        obtain ⟨o, ho⟩ : ∃ o, l[k] = o := ⟨_, rfl⟩
        rw [ho] at hval
        simp only [ho]
        obtain ⟨tx, kind, item⟩ := o
        have HO := Lib.hid ho
        have HVA := Lib.hid hval
        obtain ⟨wc, hwc⟩ : ∃ wc, wc = wr.setChan ch l.length (opVs (l.drop (k + 1))) true n' (m' + 1) false := ⟨_, rfl⟩
        rw [← hwc]
        have hgr : wr.grownBy wc (some ch) := by rw [hwc]; exact grown_setChan _ _ _ _ _ _ _ _
        have HCc := Lib.hid (show wc.heap[ch]? = some (.chan l.length (opVs (l.drop (k + 1))) true n' (m' + 1) false) by rw [hwc]; exact heap_setChan _ _ _ _ _ _ _ _ (lt_of_block HC.out))
        have HTc := Lib.hid (HT.out.far (b := ch) (by simp) hgr)
        have HMc := Lib.hid (HM1.out.gr hgr hgc)
        have HBc := Lib.hid (show Below w.heap.size w wc by rw [hwc]; exact below_setChan HB.out (HT.out.off ch (by simp)).1 _ _ _ _ _ _)
        clear hwc hgr ho hval
        have hle := rsTo_le (l := l) (skip := skip) k hk
        rw [HRS.out] at hle
        have HL1 := Lib.hid (show done.length ≤ 4194304 by have := hle.1; simp at this; omega)
        have HL2 := Lib.hid (show dead.length ≤ 4194304 by have := hle.2; simp at this; omega)
        have HL3 := Lib.hid (show dead.length ≤ maxLen by have := HL2.out; unfold maxLen; omega)
        have HDL := Lib.hid (show chLeft wc ch < chLeft wr ch by rw [chLeft_is HCc.out, chLeft_is HC.out, opVs_size, opVs_size]; simp; omega)
        obtain ⟨dl, hdl⟩ : ∃ dl, chLeft wr ch = dl := ⟨_, rfl⟩
        rw [hdl] at HDL
        clear hle HC HT HM1 HB HSZ
        obtain ⟨st, hst⟩ : ∃ st : Int, st = (firstOf l tx : Nat) := ⟨_, rfl⟩
        have HST := Lib.hid hst
        have HIX := Lib.hid (show idxB (fun o : O3 => o.tx == tx) l = st by rw [hst]; exact first_idx ⟨k, hlt, by rw [HO.out]⟩)
        clear hst
        have HX0 := Lib.hid (Bx3.made wc 60 tx kind item)
        have hBs : w.heap.size ≤ wc.heap.size := HBc.out.size
        cases hd : dead.contains tx
        all_goals have HD := Lib.hid hd
        all_goals clear hd
        · go_wp2_with (go_at_call 34; refine (Contains_int_any _ _ dead _ _ HL3.out ((HTc.out.i.own.rd).on (by (repeat' (first | (with_reducible exact Below.refl _ _) | (with_reducible assumption) | (with_reducible refine Below.al ?_ _) | (with_reducible refine Below.drew ?_) | (with_reducible refine Below.drN ?_ _) | (with_reducible refine Below.via (by with_reducible assumption) ?_) | (with_reducible refine Below.setc ?_ ?_ _) | (with_reducible exact Nat.le_refl _) | (simp; done) | (simp; omega)))))).mono ?_; rintro e w1 ⟨rfl, rfl⟩; rw [HD.out])
          refine (impl_span_any _ _ l _ _ HM.out (hR.on (Below.al HBc.out _))).mono ?_
          rintro e w4 ⟨⟨y, rfl⟩, hb4⟩
          rw [HIX.out]
          have hb0 : Below wc.heap.size wc w4 := by (repeat' (first | (with_reducible exact Below.refl _ _) | (with_reducible assumption) | (with_reducible refine Below.al ?_ _) | (with_reducible refine Below.drew ?_) | (with_reducible refine Below.drN ?_ _) | (with_reducible refine Below.via (by with_reducible assumption) ?_) | (with_reducible refine Below.setc ?_ ?_ _) | (with_reducible exact Nat.le_refl _) | (simp; done) | (simp; omega)))
          have T4 := Lib.hid (HTc.out.more (b := wc.heap.size) hb0 hBs (Nat.le_refl _) (by have := hb4.size; simp at this; omega))
          have M4 := Lib.hid (HMc.out.on hb0)
          have C4 := Lib.hid ((hb0.block ch (lt_of_block HCc.out)).trans HCc.out)
          have X4 := Lib.hid (HX0.out.be hb4)
          have B4 := Lib.hid (Below.via hb0 HBc.out)
          have n1 : wc.heap.size ≠ g := by have := HMc.out.lt; omega
          clear hb0 hb4
          obtain ⟨y0, y1, y2, y3, y4, y5, y6⟩ := X4.out.at_
          go_wp2_with fail
          refine (impl_macc_any g ⟨tx, kind, item⟩ st skip rd wm _ HVA.out M4.out).mono ?_
          rintro e w5 ⟨rfl, hM5, hg5⟩
          have T5 := Lib.hid (T4.out.far (b := g) (by simp) hg5)
          have C5 := Lib.hid ((hg5.block ch (lt_of_block C4.out) (by simpa using fun e => hgc e.symm)).trans C4.out)
          have X5 := Lib.hid (X4.out.gr hg5 n1)
          have M5 := Lib.hid hM5
          have B5 := Lib.hid (B4.out.grown hg5 B4.out.size (fun j e => by cases e; exact (T4.out.off g (by simp)).1))
          have hBs5 : w.heap.size ≤ w5.heap.size := B5.out.size
          clear y0 y1 y2 y3 y4 y5 y6 hM5 hg5 T4 M4 C4 X4 B4
          obtain ⟨y0, y1, y2, y3, y4, y5, y6⟩ := X5.out.at_
          have HLV := rs_live hlt HRS.out HO.out HD.out HST.out (r := rsOut skip rd wm ⟨tx, kind, item⟩ st) rfl rfl rfl
          rcases rsOut_vals skip rd wm ⟨tx, kind, item⟩ st with hr | hr | hr
          all_goals rw [hr]
          all_goals rw [hr] at HLV
          all_goals have HLW := Lib.hid HLV
          all_goals clear HLV hr
          · go_wp2_with (at_builtin; refine wpList_app_oa _ 35 60 i0 rfl _ _ rfl Try.underlying35 hi0 hz0 hz1 hz2 w.heap.size _ done rfl T5.out.o ⟨tx, kind, item⟩ _ rfl (by first | rfl | simp) HL1.out (by first | exact hBs5 | (simp; exact hBs5)) ?_; intro A8 c8 w8 hO8 hg8 hv8; obtain ⟨T8, K8, B8⟩ := T5.out.appO hO8 hg8 hv8)
            refine ⟨⟨k + 1, done ++ [⟨tx, kind, item⟩], dead, _, _, A8, c8, A2, c2, n', m' + 1, by omega, by simp, rfl, HLW.out.trans (by simp), by rw [List.length_append]; exact T8.sub (by simp), (K8 g (by simp)).trans M5.out, (K8 ch (by simp)).trans C5.out, B5.out.trans (B8 hBs5)⟩, ?_⟩
            have h := HDL.out
            rw [chLeft_is ((K8 ch (by simp)).trans C5.out), hdl]
            rw [chLeft_is HCc.out] at h
            exact h
          · go_wp2_with fail
            refine ⟨⟨k + 1, done, dead, _, _, A1, c1, A2, c2, n', m' + 1, by omega, rfl, rfl, HLW.out.trans (by simp), T5.out.sub (by simp), M5.out, C5.out, B5.out⟩, ?_⟩
            have h := HDL.out
            rw [chLeft_is C5.out, hdl]
            rw [chLeft_is HCc.out] at h
            exact h
          · go_wp2_with (first | (at_builtin; refine wpList_app_oa _ 35 60 i0 rfl _ _ rfl Try.underlying35 hi0 hz0 hz1 hz2 w.heap.size _ done rfl T5.out.o ⟨tx, 3, 0⟩ _ rfl (by first | rfl | simp) HL1.out (by first | exact hBs5 | (simp; exact hBs5)) ?_; intro A8 c8 w8 hO8 hg8 hv8; obtain ⟨T8, K8, B8⟩ := T5.out.appO hO8 hg8 hv8; have x8 := (show Bx3 w8 wc.heap.size _ _ _ _ from (K8 _ (by simp)).trans X5.out).at_.2.1; have hs8 : w.heap.size ≤ w8.heap.size := Nat.le_trans hBs5 (B8 hBs5).size) | (at_builtin; refine wpList_app_ia _ 24 3 j0 rfl _ _ rfl Try.underlying24 hj0 hy0 hy1 hy2 w.heap.size _ dead rfl T8.i tx _ rfl (by first | rfl | simp) HL2.out hs8 ?_; intro A9 c9 w9 hO9 hg9 hv9; obtain ⟨T9, K9, B9⟩ := T8.appI hO9 hg9 hv9))
            refine ⟨⟨k + 1, done ++ [⟨tx, 3, 0⟩], dead ++ [tx], _, _, A8, c8, A9, c9, n', m' + 1, by omega, by simp, by simp, HLW.out.trans (by simp), by rw [List.length_append, List.length_append]; exact T9.sub (by simp), ((K9 g (by simp)).trans (K8 g (by simp))).trans M5.out, ((K9 ch (by simp)).trans (K8 ch (by simp))).trans C5.out, (B5.out.trans (B8 hBs5)).trans (B9 hs8)⟩, ?_⟩
            have h := HDL.out
            rw [chLeft_is (((K9 ch (by simp)).trans (K8 ch (by simp))).trans C5.out), hdl]
            rw [chLeft_is HCc.out] at h
            exact h
        · go_wp2_with (go_at_call 34; refine (Contains_int_any _ _ dead _ _ HL3.out ((HTc.out.i.own.rd).on (by (repeat' (first | (with_reducible exact Below.refl _ _) | (with_reducible assumption) | (with_reducible refine Below.al ?_ _) | (with_reducible refine Below.drew ?_) | (with_reducible refine Below.drN ?_ _) | (with_reducible refine Below.via (by with_reducible assumption) ?_) | (with_reducible refine Below.setc ?_ ?_ _) | (with_reducible exact Nat.le_refl _) | (simp; done) | (simp; omega)))))).mono ?_; rintro e w1 ⟨rfl, rfl⟩; rw [HD.out])
          have hb0 : Below wc.heap.size wc (wc.alloc (.cells #[.int .i64 tx, .int .i64 kind, .int .i64 item] 60)) := by (repeat' (first | (with_reducible exact Below.refl _ _) | (with_reducible assumption) | (with_reducible refine Below.al ?_ _) | (with_reducible refine Below.drew ?_) | (with_reducible refine Below.drN ?_ _) | (with_reducible refine Below.via (by with_reducible assumption) ?_) | (with_reducible refine Below.setc ?_ ?_ _) | (with_reducible exact Nat.le_refl _) | (simp; done) | (simp; omega)))
          refine ⟨⟨k + 1, done, dead, rd, wm, A1, c1, A2, c2, n', m' + 1, by omega, rfl, rfl, rs_dead hlt HRS.out HO.out HD.out, HTc.out.on hb0, HMc.out.on hb0, (hb0.block ch (lt_of_block HCc.out)).trans HCc.out, Below.via hb0 HBc.out⟩, ?_⟩
          have h := HDL.out
          rw [chLeft_is ((hb0.block ch (lt_of_block HCc.out)).trans HCc.out), hdl]
          rw [chLeft_is HCc.out] at h
          exact h
      · have hk' : k = l.length := by omega
        have HKL := Lib.hid hk'
        have HC0 := Lib.hid (show wr.heap[ch]? = some (.chan l.length #[] true n' m' false) by have h := HC.out; rw [hk', List.drop_length] at h; exact h)
        clear hk'
        have hcap1 := HT.out.o.cap.1
        have hcap2 := HT.out.i.cap.1
        go_upto_region 6 with fail
        refine wp_recv2_shut (id := 6) (v1 := .bool false) (z := .agg #[.int .i64 0, .int .i64 0, .int .i64 0]) rfl rfl ?_ HC0.out ?_ ?_
        · go_simp; rfl
        · go_simp
        go_wp2_with (first
          | (go_at_call 46; refine (rs_Clip_O _ _ _ _ hcap1).mono ?_; rintro e w' ⟨rfl, rfl⟩)
          | (go_at_call 36; refine (rs_Clip_I _ _ _ _ hcap2).mono ?_; rintro e w' ⟨rfl, rfl⟩))
        go_ret2
        refine ⟨⟨_, _, rfl, ?_⟩, HB.out⟩
        have h1 := HRS.out
        rw [HKL.out] at h1
        simp only [h1, if_true]
        exact ⟨HT.out.o.own.cut rfl, HT.out.i.own.cut rfl, fun j e1 e2 => HT.out.ne j ((own_cap _ _ _ _ _).trans e1) ((own_cap _ _ _ _ _).trans e2)⟩
end Go.Proofs.Ytejipiadapggmaa
