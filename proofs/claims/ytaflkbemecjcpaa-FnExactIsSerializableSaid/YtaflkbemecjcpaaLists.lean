/- The programs of transactions that the drawn laws make: lists of lists of operations, each list in a block of its own. -/
import Derived.Maps.AppendAt
import Derived.Test.YtaflkbemecjcpaaDraw
namespace Go.Proofs.Ytaflkbemecjcpaa
set_option linter.unusedSimpArgs false
set_option linter.unusedVariables false
open Go.RowKit

theorem info_R : (Try.prog.info? 26).map (fun i => (i.zero, i.size, i.bytes)) = some (some (.slice none 0 0), 1, 24) := by kernel_rfl
/-- A list of n operations that nobody writes any more: its block is neither the reader's nor the list of lists' own. -/
def RowR (w : World) (g : Nat) (ob : Option Nat) (r : Value) (n : Nat) : Prop :=
  ∃ A c l, r = .slice A n c ∧ n ≤ c ∧ l.length = n ∧ RdO w w.heap.size A l ∧ ∀ a, A = some a → a.block ≠ g ∧ ob ≠ some a.block ∧ a.block < w.heap.size
section
variable {w w1 w2 : World} {g n : Nat} {ob ob' row : Option Nat} {r : Value}
theorem RdO.far {B : Nat} {A : Option Addr} {l : List O3} (h : RdO w B A l) (hg : w.grownBy w1 row) (hB : B ≤ w.heap.size) (hne : ∀ a, A = some a → row ≠ some a.block) : RdO w1 B A l := fun hl => by
  obtain ⟨b, off, rfl, hb, hc⟩ := h hl
  refine ⟨b, off, rfl, hb, fun k hk => ?_⟩
  have e : w1.heap[b]? = w.heap[b]? := hg.block b (by omega) (fun e => hne _ rfl e.symm)
  have c : ∀ o, w1.cell? ⟨b, o, none⟩ = w.cell? ⟨b, o, none⟩ := fun o => World.cell?_of_block e
  rw [c, c, c]
  exact hc k hk
theorem RowR.far (h : RowR w g ob r n) (hg : w.grownBy w1 row) (hne : ∀ b, b ≠ g → ob ≠ some b → row ≠ some b) : RowR w1 g ob r n := by
  obtain ⟨A, c, l, rfl, hc, hl, hR, ha⟩ := h
  have hs := hg.size
  exact ⟨A, c, l, rfl, hc, hl, (hR.far hg (Nat.le_refl _) (fun a e => hne _ (ha a e).1 (ha a e).2.1)).more hs, fun a e => ⟨(ha a e).1, (ha a e).2.1, by have := (ha a e).2.2; omega⟩⟩
theorem RowR.other (h : RowR w g ob r n) (ho : ob' = ob ∨ ob' = some w.heap.size) : RowR w g ob' r n := by
  obtain ⟨A, c, l, rfl, hc, hl, hR, ha⟩ := h
  refine ⟨A, c, l, rfl, hc, hl, hR, fun a e => ⟨(ha a e).1, ?_, (ha a e).2.2⟩⟩
  have h2 := (ha a e).2.2
  rcases ho with rfl | rfl
  · exact (ha a e).2.1
  · simp; omega
end
/-- The length of a slice value. -/
def lenOf (v : Value) : Nat := match v with | .slice _ n _ => n | _ => 0
def tot (rn : List (Value × Nat)) : Nat := (rn.map Prod.snd).sum
/-- The lists so far: in memory since w, the reader beside them. -/
structure PSt (w : World) (g : Nat) (wr : World) (v : Value) (rn : List (Value × Nat)) (P : Nat) : Prop where
  own : wr.ownsRow w.heap.size 26 1 v rn.length (rn.map Prod.fst)
  row : ∀ p ∈ rn, RowR wr g v.ownBlock p.1 p.2
  rdr : RdrAt wr g P
  gr : w.grownBy wr (some g)
  lt : g < w.heap.size
section
variable {w wr w1 w2 : World} {g P P' : Nat} {v v' : Value} {rn : List (Value × Nat)}
theorem PSt.far (h : PSt w g wr v rn P) (hg : wr.grownBy w1 (some g)) (hr : RdrAt w1 g P') : PSt w g w1 v rn P' := by
  refine ⟨h.own.kept hg ?_, fun p hp => (h.row p hp).far hg (fun b hb _ => by simp; omega), hr, h.gr.trans hg, h.lt⟩
  cases hv : v.ownBlock with
  | none => exact .inl rfl
  | some k =>
    refine .inr ?_
    have := (h.own.lt k hv).1
    have := h.lt
    simp; omega
theorem PSt.app {r : Value} {n : Nat} (h : PSt w g wr v rn P) (hr : RowR wr g v.ownBlock r n) (hown : w1.ownsRow w.heap.size 26 1 v' (rn.length + 1) (rn.map Prod.fst ++ [r]))
    (hg : wr.grownBy w1 v.ownBlock) (hv : v'.ownBlock = v.ownBlock ∨ ∃ k, v'.ownBlock = some k ∧ wr.heap.size ≤ k) (hb : Below w.heap.size wr w1) : PSt w g w1 v' (rn ++ [(r, n)]) P := by
  have key : ∀ {r n}, RowR wr g v.ownBlock r n → RowR w1 g v'.ownBlock r n := by
    intro r n hr
    have h1 := hr.far hg (fun b _ hb => hb)
    obtain ⟨A, c, l, rfl, hc, hl, hR, ha⟩ := hr
    obtain ⟨A', c', l', e', hc', hl', hR', ha'⟩ := h1
    injection e' with e1 e2 e3
    subst e1 e3
    refine ⟨A, c, l', rfl, hc', hl', hR', fun a e => ⟨(ha a e).1, ?_, (ha' a e).2.2⟩⟩
    rcases hv with hv | ⟨k, hv, hk⟩
    · rw [hv]; exact (ha a e).2.1
    · rw [hv]; have := (ha a e).2.2; simp; omega
  refine ⟨by simpa using hown, fun p hp => ?_, h.rdr.on hb h.lt, ?_, h.lt⟩
  · rcases List.mem_append.1 hp with hp | hp
    · exact key (h.row p hp)
    · simp at hp; subst hp; exact key hr
  · exact ⟨hb.os.trans h.gr.os, hb.tape.trans h.gr.tape, hb.output.trans h.gr.output, Nat.le_trans h.gr.size hb.size, fun k hk hne => (hb.block k hk).trans (h.gr.block k hk hne)⟩
theorem gr_bl {row : Option Nat} {B : Nat} (h : w.grownBy w1 row) (hb : Below B w1 w2) (hB : w.heap.size ≤ B) : w.grownBy w2 row :=
  ⟨hb.os.trans h.os, hb.tape.trans h.tape, hb.output.trans h.output, Nat.le_trans h.size hb.size, fun k hk hne => (hb.block k (by omega)).trans (h.block k hk hne)⟩
/-- the list that is made in a round -/
theorem AppO.row {wo : World} {ob : Option Nat} {A : Option Addr} {c : Nat} {l : List O3} {E : TypeId} (h : AppO wr wo.heap.size E (.slice A l.length c) l) (hg : g < wo.heap.size) (ho : ∀ k, ob = some k → k < wo.heap.size) : RowR wr g ob (.slice A l.length c) l.length := by
  refine ⟨A, c, l, rfl, h.cap.1, rfl, h.own.rd, fun a e => ?_⟩
  subst e
  have h2 := h.lt a.block rfl
  refine ⟨by omega, ?_, h2.2⟩
  intro e
  have := ho _ e
  omega
end
theorem AppO.gr {w w1 : World} {B g : Nat} {E : TypeId} {v : Value} {l : List O3} (h : AppO w B E v l) (hg : w.grownBy w1 (some g)) (hB : g < B) : AppO w1 B E v l := by
  refine World.ownsRow.kept h hg ?_
  cases hv : v.ownBlock with
  | none => exact .inl rfl
  | some k =>
    refine .inr ?_
    have := (h.lt k hv).1
    simp; omega
section
variable {P : Program} {ops : Array Oper} {rest : List Oper} {o : Oper} {a : Act} {Q : Exit → Act → World → Prop}
theorem wpList_app_r (W : World) (T E : TypeId) (i : TypeInfo) (hgd : o.guard = none) (s x : Operand)
    (ho : o.op = .call { callee := .builtin .append, args := #[s, x], argTypes := #[T, T] })
    (ht : P.underlying T = some (.slice E)) (hi : P.info? E = some i) (hz : i.zero = some (.slice none 0 0)) (hsize : i.size = 1) (hby : i.bytes = 24)
    (base : Nat) (v : Value) (rows : List Value) (n : Nat) (hn : rows.length = n) (hs : a.eval s = v) (hown : W.ownsRow base E 1 v n rows)
    (A0 : Option Addr) (n0 c0 : Nat) (g : Nat) (hx : a.eval x = .slice (some ⟨g, 0, none⟩) 1 1) (hgW : g = W.heap.size) (hlen : n ≤ 4194304) (hbase : base ≤ W.heap.size)
    (h : ∀ A' c' w', w'.ownsRow base E 1 (.slice A' (n + 1) c') (n + 1) (rows ++ [.slice A0 n0 c0]) → (W.alloc (.cells #[.slice A0 n0 c0] E)).grownBy w' v.ownBlock →
      ((Value.slice A' (n + 1) c').ownBlock = v.ownBlock ∨ ∃ k, (Value.slice A' (n + 1) c').ownBlock = some k ∧ (W.alloc (.cells #[.slice A0 n0 c0] E)).heap.size ≤ k) → Below base W w' → wpList P ops Q rest (a.put o.dst (.slice A' (n + 1) c')) w') :
    wpList P ops Q (o :: rest) a (W.alloc (.cells #[.slice A0 n0 c0] E)) := by
  subst hgW
  have hal : (W.alloc (.cells #[.slice A0 n0 c0] E)).ownsRow base E 1 v n rows := row_kept hown (fun k hk => Below.heap_alloc W _ k hk)
  refine wpList_append_own_at _ hgd s x T ho base E i _ 1 24 ht hi hz hsize hby rfl (by decide) v n rows hs hal ⟨W.heap.size, 0, none⟩ 1 1 [.slice A0 n0 c0] hx rfl (cell_one_new _ _ _) ?_ ?_ ?_ ?_ ?_
  · intro u hu; simp at hu; subst hu; rfl
  · unfold maxLen; omega
  · omega
  · simp; omega
  · intro v' w' h1 h2 _ h4
    obtain ⟨A', c', rfl, _⟩ := row_form h1
    refine h A' c' w' h1 h2 ?_ ?_
    · rcases h4 with h4 | h4
      · exact .inl h4
      · exact .inr ⟨_, h4, Nat.le_refl _⟩
    · exact Below.grown ((Below.refl _ _).alloc hbase _) h2 (by simp; omega) (fun k hk => (hown.lt k hk).1)
end

theorem mem_rng {x : Int} {l : List Int} (lo hi : Int) (h : x ∈ l) (hl : ∀ y ∈ l, lo ≤ y ∧ y ≤ hi) : lo ≤ x ∧ x ≤ hi := hl x h
theorem lit_at (w : World) (E : TypeId) (l : List Int) {k : Nat} (hk : k = w.heap.size) : RdI (w.alloc (.cells (cellsI l).toArray E)) (w.alloc (.cells (cellsI l).toArray E)).heap.size (some ⟨k, 0, none⟩) l := by
  subst hk; exact lit_rd w E l
set_option maxRecDepth 100000 in
set_option maxHeartbeats 2000000 in
theorem programs_any (g P most : Nat) (w : World) (hP : P < 800000) (hm : most ≤ 1000) (hr : RdrAt w g P) :
    Calls Try.prog 95 #[.pointer (some ⟨g, 0, none⟩), .int .i64 most] w fun e w' => ∃ A c rn P', e = .returned (.slice A rn.length c) ∧ PSt w g w' (.slice A rn.length c) rn P' ∧ tot rn ≤ most ∧ rn.length ≤ 4 ∧ P' ≤ P + 100 := by
  obtain ⟨i0, hi0, hz0, hz1, hz2⟩ := info_parts info_O
  obtain ⟨i1, hi1, hy0, hy1, hy2⟩ := info_parts info_R
  have hz := hr.lt
  have OW0 := Lib.hid (World.ownsRow_made (base := w.heap.size) (e := 26) (size := 1) w #[] 0 (Nat.le_refl _) (by simp [maxLen]) rfl)
  go_enter Try.func95, Try.ntmps95
  go_wp2_with fail
  refine (one_any g P _ _ [2, 3, 1] _ (by omega) (by simp) (by simp) ((hr.al _).al _) (lit_at _ _ _ (by simp)) (by rintro b off ⟨⟩; simp; omega)).mono ?_
  rintro e w1 ⟨⟨it, rfl, hit⟩, hr1, hg1⟩
  have HI := Lib.hid (mem_rng 1 3 hit (by decide)); clear hit
  have p0 : PSt w g (w.alloc (Obj.cells #[] 26)) (.slice (some ⟨w.heap.size, 0, none⟩) 0 0) [] P := ⟨OW0.out, fun p hp => by simp at hp, hr.al _, World.grownBy_alloc _ _ _, hz⟩
  have P1 := Lib.hid (p0.far (show (w.alloc (Obj.cells #[] 26)).grownBy w1 (some g) by (repeat' (first | (with_reducible exact World.grownBy.refl _ _) | (with_reducible assumption) | (with_reducible refine gr_al ?_ _) | (with_reducible refine gr_st ?_ _ _ ?_) | (with_reducible refine gr_dr ?_) | (with_reducible refine World.grownBy.trans ?_ (by with_reducible assumption)) | (with_reducible refine gr_be ?_ (by with_reducible assumption)) | (with_reducible exact Nat.le_refl _) | (simp; done) | (simp; omega)))) hr1); clear hg1 p0 OW0 hr1 hr
  go_wp2_with fail
  refine (one_any g (P + 1) _ _ [3, 2, 4, 3, 1] _ (by omega) (by simp) (by simp) (P1.out.rdr.al _) (lit_at _ _ _ (by simp)) (by rintro b off ⟨⟩; have := P1.out.rdr.lt; simp; omega)).mono ?_
  rintro e w2 ⟨⟨nn, rfl, hnn⟩, hr2, hg2⟩
  obtain ⟨N, rfl⟩ : ∃ N : Nat, nn = N := ⟨nn.toNat, by have := mem_rng 1 4 hnn (by decide); omega⟩
  have hN : N ≤ 4 := by have := mem_rng 1 4 hnn (by decide); omega
  clear hnn
  have P2 := Lib.hid (P1.out.far (show w1.grownBy w2 (some g) by (repeat' (first | (with_reducible exact World.grownBy.refl _ _) | (with_reducible assumption) | (with_reducible refine gr_al ?_ _) | (with_reducible refine gr_st ?_ _ _ ?_) | (with_reducible refine gr_dr ?_) | (with_reducible refine World.grownBy.trans ?_ (by with_reducible assumption)) | (with_reducible refine gr_be ?_ (by with_reducible assumption)) | (with_reducible exact Nat.le_refl _) | (simp; done) | (simp; omega)))) hr2); clear hg2 hr2 P1
  go_wp2_with fail
  go_loopw [5, 6] (fun v5 v6 wr => ∃ (A : Option Addr) (c : Nat) (rn : List (Value × Nat)) (L P' : Nat), v5 = .slice A rn.length c ∧ v6 = .int .i64 L ∧ PSt w g wr (.slice A rn.length c) rn P' ∧ tot rn + L ≤ most ∧ rn.length ≤ 4 ∧ P' ≤ P + 2 + 20 * rn.length) (fun v5 _ _ => 4 - lenOf v5)
  case atStart => exact ⟨_, _, [], most, P + 1 + 1, rfl, rfl, P2.out, by simp [tot], by simp, by simp⟩
  case round =>
    clear P2
    obtain ⟨A, c, rn, L, P', rfl, rfl, hst, htot, hlen, hP'⟩ := hrel
    have HS := Lib.hid hst; clear hst
    have HT := Lib.hid htot; clear htot
    have hLm : L ≤ 1000 := by have := HT.out; omega
    by_cases hlt : rn.length < N
    · obtain ⟨wo, hwo⟩ : ∃ wo : World, wo = wr := ⟨_, rfl⟩
      subst hwo
      have hz' : g < wo.heap.size := HS.out.rdr.lt
      have HL0 := Lib.hid (show AppO (wo.alloc (.cells #[] 40)) wo.heap.size 40 (.slice (some ⟨wo.heap.size, 0, none⟩) 0 0) [] from AppO.made (Nat.le_refl _) _ _ (by simp [maxLen]) rfl)
      go_wp2_with fail
      refine (one_any g P' _ _ [2, 3, 1, 4] _ (by omega) (by simp) (by simp) ((HS.out.rdr.al _).al _) (lit_at _ _ _ (by simp)) (by rintro b off ⟨⟩; simp; omega)).mono ?_
      rintro e w3 ⟨⟨x3, rfl, hx3⟩, hr3, hg3⟩
      obtain ⟨K, rfl⟩ : ∃ K : Nat, x3 = K := ⟨x3.toNat, by have := mem_rng 1 4 hx3 (by decide); omega⟩
      have hK : K ≤ 4 := by have := mem_rng 1 4 hx3 (by decide); omega
      clear hx3
      have HL3 := Lib.hid (AppO.gr (HL0.out.alloc _) hg3 hz'); clear HL0
      have G3 := Lib.hid (show wo.grownBy w3 (some g) by (repeat' (first | (with_reducible exact World.grownBy.refl _ _) | (with_reducible assumption) | (with_reducible refine gr_al ?_ _) | (with_reducible refine gr_st ?_ _ _ ?_) | (with_reducible refine gr_dr ?_) | (with_reducible refine World.grownBy.trans ?_ (by with_reducible assumption)) | (with_reducible refine gr_be ?_ (by with_reducible assumption)) | (with_reducible exact Nat.le_refl _) | (simp; done) | (simp; omega)))); clear hg3
      go_wp2_with fail
      go_loopw [6, 10, 11] (fun v6 v10 v11 wi => ∃ (A' : Option Addr) (c' : Nat) (l : List O3) (L' k P'' : Nat), v6 = .int .i64 L' ∧ v10 = .slice A' l.length c' ∧ v11 = .int .i64 k ∧ AppO wi wo.heap.size 40 (.slice A' l.length c') l ∧ l.length + L' = L ∧ l.length + k = K ∧ RdrAt wi g P'' ∧ wo.grownBy wi (some g) ∧ P'' = P' + 1 + 2 * l.length) (fun _ _ v11 _ => (intOf v11).toNat)
      case atStart => exact ⟨_, _, [], L, K, P' + 1, rfl, rfl, rfl, HL3.out, by simp, by simp, hr3, G3.out, rfl⟩
      case round =>
        clear HL3 G3 hr3
        obtain ⟨A', c', l, L', k, P'', rfl, rfl, rfl, hla, hlL, hlk, hri, hgi, hPP⟩ := hrel
        have HA := Lib.hid hla; clear hla
        have GI := Lib.hid hgi; clear hgi
        have hL1' : L' ≤ L := by omega
        by_cases hk0 : 0 < k
        · by_cases hL1 : 1 < L'
          · go_wp2_with fail
            refine (one_any g P'' _ _ [0, 1, 0, 1] _ (by omega) (by simp) (by simp) (hri.al _) (lit_at _ _ _ (by simp)) (by rintro b off ⟨⟩; have := hri.lt; simp; omega)).mono ?_
            rintro e w4 ⟨⟨x4, rfl, _⟩, hr4, hg4⟩
            have HA4 := Lib.hid (AppO.gr (HA.out.alloc _) hg4 hz')
            have G4 := Lib.hid (show wo.grownBy w4 (some g) by have h := GI.out; (repeat' (first | (with_reducible exact World.grownBy.refl _ _) | (with_reducible assumption) | (with_reducible refine gr_al ?_ _) | (with_reducible refine gr_st ?_ _ _ ?_) | (with_reducible refine gr_dr ?_) | (with_reducible refine World.grownBy.trans ?_ (by with_reducible assumption)) | (with_reducible refine gr_be ?_ (by with_reducible assumption)) | (with_reducible exact Nat.le_refl _) | (simp; done) | (simp; omega)))); clear hg4
            go_wp2_with fail
            refine (pick_any g (P'' + 1) it _ (by omega) (by have := HI.out; omega) hr4).mono ?_
            rintro e w5 ⟨⟨x5, rfl, _, _⟩, hr5, hg5⟩
            have HA5 := Lib.hid (AppO.gr HA4.out hg5 hz')
            have G5 := Lib.hid (show wo.grownBy w5 (some g) by have h := G4.out; (repeat' (first | (with_reducible exact World.grownBy.refl _ _) | (with_reducible assumption) | (with_reducible refine gr_al ?_ _) | (with_reducible refine gr_st ?_ _ _ ?_) | (with_reducible refine gr_dr ?_) | (with_reducible refine World.grownBy.trans ?_ (by with_reducible assumption)) | (with_reducible refine gr_be ?_ (by with_reducible assumption)) | (with_reducible exact Nat.le_refl _) | (simp; done) | (simp; omega)))); clear hg5
            have hB5 := G5.out.size
            go_wp2_with (at_builtin; refine wpList_app_o _ 26 40 i0 rfl _ _ rfl Try.underlying26 hi0 hz0 hz1 hz2 wo.heap.size _ _ rfl HA5.out ⟨(rn.length : Int), x4, x5⟩ _ rfl (by first | rfl | simp) (by omega) hB5 ?_; intro A6 c6 w6 hO6 hg6 hb6)
            refine ⟨⟨A6, c6, l ++ [⟨(rn.length : Int), x4, x5⟩], L' - 1, k - 1, P'' + 1 + 1, by go_num, by simp, by go_num, by rw [List.length_append]; exact hO6, by simp; omega, by simp; omega, hr5.on hb6 hz', gr_bl G5.out hb6 (Nat.le_refl _), by simp; omega⟩, by simp [intOf]; omega⟩
          · skip
            by_cases h0 : L' = 0
            · subst h0
              clear hL1'
              have HSX := Lib.hid (HS.out.far GI.out hri)
              have hBs := HSX.out.gr.size
              go_wp2_with (at_builtin; refine wpList_app_r _ 94 26 i1 rfl _ _ rfl Try.underlying94 hi1 hy0 hy1 hy2 w.heap.size _ (rn.map Prod.fst) rn.length (by simp) rfl HSX.out.own A' l.length c' _ rfl (by first | rfl | simp) (by omega) hBs ?_; intro A9 c9 w9 hO9 hg9 hv9 hb9)
              have hrow := AppO.row HA.out hz' (fun k hk => (HS.out.own.lt k hk).2)
              have hst9 := HSX.out.app hrow hO9 ((World.grownBy_alloc _ _ _).trans hg9) (hv9.elim .inl (fun ⟨k, h1, h2⟩ => .inr ⟨k, h1, by simp at h2; omega⟩)) hb9
              refine ⟨⟨A9, c9, rn ++ [(.slice A' l.length c', l.length)], 0, P'', by simp, by first | rfl | go_num, by rw [List.length_append]; exact hst9, ?_, by simp; omega, by simp; omega⟩, by simp [lenOf]; omega⟩
              have := HT.out
              simp [tot] at this ⊢
              omega
            · go_wp2_with fail
              refine (pick_any g P'' 10 _ (by omega) (by omega) hri).mono ?_
              rintro e w6 ⟨⟨x6, rfl, hx60, _⟩, hr6, hg6⟩
              have HA6 := Lib.hid (AppO.gr HA.out hg6 hz')
              have G6 := Lib.hid (show wo.grownBy w6 (some g) by have h := GI.out; (repeat' (first | (with_reducible exact World.grownBy.refl _ _) | (with_reducible assumption) | (with_reducible refine gr_al ?_ _) | (with_reducible refine gr_st ?_ _ _ ?_) | (with_reducible refine gr_dr ?_) | (with_reducible refine World.grownBy.trans ?_ (by with_reducible assumption)) | (with_reducible refine gr_be ?_ (by with_reducible assumption)) | (with_reducible exact Nat.le_refl _) | (simp; done) | (simp; omega)))); clear hg6
              by_cases h6 : 0 < x6
              · go_wp2_with fail
                refine (one_any g (P'' + 1) _ _ [2, 2, 2, 2, 2, 3] _ (by omega) (by simp) (by simp) (hr6.al _) (lit_at _ _ _ (by simp)) (by rintro b off ⟨⟩; have := hr6.lt; simp; omega)).mono ?_
                rintro e w7 ⟨⟨x7, rfl, _⟩, hr7, hg7⟩
                have HA7 := Lib.hid (AppO.gr (HA6.out.alloc _) hg7 hz')
                have G7 := Lib.hid (show wo.grownBy w7 (some g) by have h := G6.out; (repeat' (first | (with_reducible exact World.grownBy.refl _ _) | (with_reducible assumption) | (with_reducible refine gr_al ?_ _) | (with_reducible refine gr_st ?_ _ _ ?_) | (with_reducible refine gr_dr ?_) | (with_reducible refine World.grownBy.trans ?_ (by with_reducible assumption)) | (with_reducible refine gr_be ?_ (by with_reducible assumption)) | (with_reducible exact Nat.le_refl _) | (simp; done) | (simp; omega)))); clear hg7
                have hB7 := G7.out.size
                have hl4 : l.length ≤ 4194304 := by omega
                go_wp2_with (first
                  | (at_builtin; refine wpList_app_o _ 26 40 i0 rfl _ _ rfl Try.underlying26 hi0 hz0 hz1 hz2 wo.heap.size _ _ rfl HA7.out ⟨(rn.length : Int), x7, 0⟩ _ rfl (by first | rfl | simp) hl4 hB7 ?_; intro A8 c8 w8 hO8 hg8 hb8; have HA8 := Lib.hid (show AppO w8 wo.heap.size 40 (.slice A8 (l ++ [(⟨(rn.length : Int), x7, 0⟩ : O3)]).length c8) (l ++ [(⟨(rn.length : Int), x7, 0⟩ : O3)]) by rw [List.length_append]; exact hO8); have hr8 := hr7.on hb8 hz'; have HSX := Lib.hid (HS.out.far (gr_bl G7.out hb8 (Nat.le_refl _)) hr8); have hBs := HSX.out.gr.size; clear hO8 hg8 hb8)
                  | (at_builtin; refine wpList_app_r _ 94 26 i1 rfl _ _ rfl Try.underlying94 hi1 hy0 hy1 hy2 w.heap.size _ (rn.map Prod.fst) rn.length (by simp) rfl HSX.out.own A8 (l.length + 1) c8 _ rfl (by first | rfl | simp) (by omega) hBs ?_; intro A9 c9 w9 hO9 hg9 hv9 hb9))
                have hrow := AppO.row HA8.out hz' (fun k hk => (HS.out.own.lt k hk).2)
                rw [show (l ++ [(⟨(rn.length : Int), x7, 0⟩ : O3)]).length = l.length + 1 by simp] at hrow
                have hst9 := HSX.out.app hrow hO9 ((World.grownBy_alloc _ _ _).trans hg9) (hv9.elim .inl (fun ⟨k, h1, h2⟩ => .inr ⟨k, h1, by simp at h2; omega⟩)) hb9
                refine ⟨⟨A9, c9, rn ++ [(.slice A8 (l.length + 1) c8, l.length + 1)], L' - 1, P'' + 1 + 1, by simp, by first | rfl | go_num, by rw [List.length_append]; exact hst9, ?_, by simp; omega, by simp; omega⟩, by simp [lenOf]; omega⟩
                have := HT.out
                simp [tot] at this ⊢
                omega
              · skip
                have HSX := Lib.hid (HS.out.far G6.out hr6)
                have hBs := HSX.out.gr.size
                go_wp2_with (at_builtin; refine wpList_app_r _ 94 26 i1 rfl _ _ rfl Try.underlying94 hi1 hy0 hy1 hy2 w.heap.size _ (rn.map Prod.fst) rn.length (by simp) rfl HSX.out.own A' l.length c' _ rfl (by first | rfl | simp) (by omega) hBs ?_; intro A9 c9 w9 hO9 hg9 hv9 hb9)
                have hrow := AppO.row HA6.out hz' (fun k hk => (HS.out.own.lt k hk).2)
                have hst9 := HSX.out.app hrow hO9 ((World.grownBy_alloc _ _ _).trans hg9) (hv9.elim .inl (fun ⟨k, h1, h2⟩ => .inr ⟨k, h1, by simp at h2; omega⟩)) hb9
                refine ⟨⟨A9, c9, rn ++ [(.slice A' l.length c', l.length)], L', (P'' + 1), by simp, by first | rfl | go_num, by rw [List.length_append]; exact hst9, ?_, by simp; omega, by simp; omega⟩, by simp [lenOf]; omega⟩
                have := HT.out
                simp [tot] at this ⊢
                omega
        · skip
          by_cases h0 : L' = 0
          · subst h0
            clear hL1'
            have HSX := Lib.hid (HS.out.far GI.out hri)
            have hBs := HSX.out.gr.size
            go_wp2_with (at_builtin; refine wpList_app_r _ 94 26 i1 rfl _ _ rfl Try.underlying94 hi1 hy0 hy1 hy2 w.heap.size _ (rn.map Prod.fst) rn.length (by simp) rfl HSX.out.own A' l.length c' _ rfl (by first | rfl | simp) (by omega) hBs ?_; intro A9 c9 w9 hO9 hg9 hv9 hb9)
            have hrow := AppO.row HA.out hz' (fun k hk => (HS.out.own.lt k hk).2)
            have hst9 := HSX.out.app hrow hO9 ((World.grownBy_alloc _ _ _).trans hg9) (hv9.elim .inl (fun ⟨k, h1, h2⟩ => .inr ⟨k, h1, by simp at h2; omega⟩)) hb9
            refine ⟨⟨A9, c9, rn ++ [(.slice A' l.length c', l.length)], 0, P'', by simp, by first | rfl | go_num, by rw [List.length_append]; exact hst9, ?_, by simp; omega, by simp; omega⟩, by simp [lenOf]; omega⟩
            have := HT.out
            simp [tot] at this ⊢
            omega
          · go_wp2_with fail
            refine (pick_any g P'' 10 _ (by omega) (by omega) hri).mono ?_
            rintro e w6 ⟨⟨x6, rfl, hx60, _⟩, hr6, hg6⟩
            have HA6 := Lib.hid (AppO.gr HA.out hg6 hz')
            have G6 := Lib.hid (show wo.grownBy w6 (some g) by have h := GI.out; (repeat' (first | (with_reducible exact World.grownBy.refl _ _) | (with_reducible assumption) | (with_reducible refine gr_al ?_ _) | (with_reducible refine gr_st ?_ _ _ ?_) | (with_reducible refine gr_dr ?_) | (with_reducible refine World.grownBy.trans ?_ (by with_reducible assumption)) | (with_reducible refine gr_be ?_ (by with_reducible assumption)) | (with_reducible exact Nat.le_refl _) | (simp; done) | (simp; omega)))); clear hg6
            by_cases h6 : 0 < x6
            · go_wp2_with fail
              refine (one_any g (P'' + 1) _ _ [2, 2, 2, 2, 2, 3] _ (by omega) (by simp) (by simp) (hr6.al _) (lit_at _ _ _ (by simp)) (by rintro b off ⟨⟩; have := hr6.lt; simp; omega)).mono ?_
              rintro e w7 ⟨⟨x7, rfl, _⟩, hr7, hg7⟩
              have HA7 := Lib.hid (AppO.gr (HA6.out.alloc _) hg7 hz')
              have G7 := Lib.hid (show wo.grownBy w7 (some g) by have h := G6.out; (repeat' (first | (with_reducible exact World.grownBy.refl _ _) | (with_reducible assumption) | (with_reducible refine gr_al ?_ _) | (with_reducible refine gr_st ?_ _ _ ?_) | (with_reducible refine gr_dr ?_) | (with_reducible refine World.grownBy.trans ?_ (by with_reducible assumption)) | (with_reducible refine gr_be ?_ (by with_reducible assumption)) | (with_reducible exact Nat.le_refl _) | (simp; done) | (simp; omega)))); clear hg7
              have hB7 := G7.out.size
              have hl4 : l.length ≤ 4194304 := by omega
              go_wp2_with (first
                | (at_builtin; refine wpList_app_o _ 26 40 i0 rfl _ _ rfl Try.underlying26 hi0 hz0 hz1 hz2 wo.heap.size _ _ rfl HA7.out ⟨(rn.length : Int), x7, 0⟩ _ rfl (by first | rfl | simp) hl4 hB7 ?_; intro A8 c8 w8 hO8 hg8 hb8; have HA8 := Lib.hid (show AppO w8 wo.heap.size 40 (.slice A8 (l ++ [(⟨(rn.length : Int), x7, 0⟩ : O3)]).length c8) (l ++ [(⟨(rn.length : Int), x7, 0⟩ : O3)]) by rw [List.length_append]; exact hO8); have hr8 := hr7.on hb8 hz'; have HSX := Lib.hid (HS.out.far (gr_bl G7.out hb8 (Nat.le_refl _)) hr8); have hBs := HSX.out.gr.size; clear hO8 hg8 hb8)
                | (at_builtin; refine wpList_app_r _ 94 26 i1 rfl _ _ rfl Try.underlying94 hi1 hy0 hy1 hy2 w.heap.size _ (rn.map Prod.fst) rn.length (by simp) rfl HSX.out.own A8 (l.length + 1) c8 _ rfl (by first | rfl | simp) (by omega) hBs ?_; intro A9 c9 w9 hO9 hg9 hv9 hb9))
              have hrow := AppO.row HA8.out hz' (fun k hk => (HS.out.own.lt k hk).2)
              rw [show (l ++ [(⟨(rn.length : Int), x7, 0⟩ : O3)]).length = l.length + 1 by simp] at hrow
              have hst9 := HSX.out.app hrow hO9 ((World.grownBy_alloc _ _ _).trans hg9) (hv9.elim .inl (fun ⟨k, h1, h2⟩ => .inr ⟨k, h1, by simp at h2; omega⟩)) hb9
              refine ⟨⟨A9, c9, rn ++ [(.slice A8 (l.length + 1) c8, l.length + 1)], L' - 1, P'' + 1 + 1, by simp, by first | rfl | go_num, by rw [List.length_append]; exact hst9, ?_, by simp; omega, by simp; omega⟩, by simp [lenOf]; omega⟩
              have := HT.out
              simp [tot] at this ⊢
              omega
            · skip
              have HSX := Lib.hid (HS.out.far G6.out hr6)
              have hBs := HSX.out.gr.size
              go_wp2_with (at_builtin; refine wpList_app_r _ 94 26 i1 rfl _ _ rfl Try.underlying94 hi1 hy0 hy1 hy2 w.heap.size _ (rn.map Prod.fst) rn.length (by simp) rfl HSX.out.own A' l.length c' _ rfl (by first | rfl | simp) (by omega) hBs ?_; intro A9 c9 w9 hO9 hg9 hv9 hb9)
              have hrow := AppO.row HA6.out hz' (fun k hk => (HS.out.own.lt k hk).2)
              have hst9 := HSX.out.app hrow hO9 ((World.grownBy_alloc _ _ _).trans hg9) (hv9.elim .inl (fun ⟨k, h1, h2⟩ => .inr ⟨k, h1, by simp at h2; omega⟩)) hb9
              refine ⟨⟨A9, c9, rn ++ [(.slice A' l.length c', l.length)], L', (P'' + 1), by simp, by first | rfl | go_num, by rw [List.length_append]; exact hst9, ?_, by simp; omega, by simp; omega⟩, by simp [lenOf]; omega⟩
              have := HT.out
              simp [tot] at this ⊢
              omega
    · go_wp2
      go_ret
      exact ⟨A, c, rn, P', rfl, HS.out, by have := HT.out; omega, hlen, by omega⟩
end Go.Proofs.Ytaflkbemecjcpaa
