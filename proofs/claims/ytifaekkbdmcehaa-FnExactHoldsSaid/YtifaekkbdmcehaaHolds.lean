/- Holds of the program and of the reference: what they compute. -/
import Derived.Test.YtifaekkbdmcehaaDegs
import Derived.Test.YtifaekkbdmcehaaEnds
namespace Go.Proofs.Ytifaekkbdmcehaa
open Go.RowKit
theorem incB_last : ∀ (zs : List Int) (l m : Int), incB l zs = some m → zs ≠ [] → lastI zs = m := by
  intro zs
  induction zs with
  | nil => intro l m _ h; exact absurd rfl h
  | cons z r ih =>
    intro l m h _
    simp only [incB] at h
    split at h
    · cases h
    · cases r with
      | nil => simp only [incB, Option.some.injEq] at h; subst h; rfl
      | cons y t =>
        have := ih z m h (by simp)
        unfold lastI at *
        simp only [List.length_cons, Nat.add_sub_cancel] at *
        rw [List.getD_cons_succ]
        exact this
theorem cnt_lt : ∀ (zs : List Int) (v : Int), zs ≠ [] → v < lastI zs → cntI zs v < zs.length := by
  intro zs v h hv
  unfold cntI
  rw [List.length_filter_lt_length_iff_exists]
  have hl : zs.length - 1 < zs.length := by have := List.length_pos_iff.2 h; omega
  refine ⟨zs[zs.length - 1], List.getElem_mem hl, ?_⟩
  unfold lastI at hv
  rw [List.getD_eq_getElem?_getD, List.getElem?_eq_getElem hl] at hv
  simp at hv ⊢
  omega
theorem endsB_yes {n : Int} {zs : List Int} (h : endsB n zs = true) : 0 ≤ n ∧ n ≤ 150 ∧ incB 0 zs = some n := by
  simp [endsB] at h
  exact ⟨h.1.1, h.1.2, h.2⟩
theorem iv_in {n v : Int} {zs : List Int} (h : endsB n zs = true) (h0 : 0 ≤ v) (h1 : v < n) : ∃ q : Nat, ivI zs v = (q : Int) ∧ q < zs.length := by
  obtain ⟨_, _, h4⟩ := endsB_yes h
  have hne : zs ≠ [] := by intro e; subst e; simp [incB] at h4; omega
  have hl := incB_last zs 0 n h4 hne
  refine ⟨cntI zs v, ivI_yes zs v (by have := List.length_pos_iff.2 hne; omega) (by omega) (by omega), cnt_lt zs v hne (by omega)⟩
def holdI (es : List Int) (xs : List EdgeR) : List Nat := xs.map fun e => (ivI es e.to).toNat
theorem holdI_snoc (es : List Int) (xs : List EdgeR) (k : Nat) (h : k < xs.length) : holdI es (xs.take (k + 1)) = holdI es (xs.take k) ++ [(ivI es (edgeAt xs k).to).toNat] := by
  unfold holdI
  rw [List.take_succ_eq_append_getElem h, edgeAt_eq xs k h, List.map_append]; rfl
def holdG (n : Int) (xs : List EdgeR) (es : List Int) : List Int := if graphB n xs = true ∧ endsB n es = true then tally es.length (holdI es xs) else []
theorem holdG_no {n : Int} {xs : List EdgeR} {es : List Int} (h : ¬ (graphB n xs = true ∧ endsB n es = true)) : holdG n xs es = [] := if_neg h
theorem holdG_yes {n : Int} {xs : List EdgeR} {es : List Int} (h : graphB n xs = true) (h2 : endsB n es = true) : holdG n xs es = tally es.length (holdI es xs) := if_pos ⟨h, h2⟩
-- HERE
set_option maxRecDepth 100000 in
set_option maxHeartbeats 1600000 in
theorem holds_impl (n : Int) (a : Option Addr) (m cap : Nat) (xs : List EdgeR) (a2 : Option Addr) (m2 cap2 : Nat) (es : List Int) (w : World) (h : Rd encEdge 3 w a m cap xs) (h' : Rd (encI .i64) 1 w a2 m2 cap2 es) (hm2 : m2 ≤ 1048576) :
    Calls Try.prog 50 #[.agg #[.int .i64 n, .slice a m cap], .slice a2 m2 cap2] w fun e w' => RetL .i64 3 (holdG n xs es) w e w' := by
  have hL := Lib.hid h.len
  have hL2 := Lib.hid h'.len
  have hm := h.max
  have hle := h.le
  unfold maxLen at hm
  have hb0 := (Below.refl w.heap.size w).alloc (Nat.le_refl _) (.cells #[.int .i64 n, .slice a m cap] 36)
  cases hg : graphB n xs with
  | false =>
    have HG := Lib.hid hg
    have HR := Lib.hid (holdG_no (n := n) (xs := xs) (es := es) (by rw [hg]; simp))
    clear hg
    go_enter Try.func50, Try.ntmps50
    go_wp2_with fail
    refine (graphOk_impl n a m cap xs _ (h.below hb0 (Nat.le_refl _))).mono ?_
    rintro e w1 ⟨rfl, hb1⟩
    rw [HG.out]
    go_wp2
    go_ret
    rw [HR.out]
    have BB1 := hb0.trans (hb1.mono (by simp))
    exact ⟨none, 0, 0, rfl, (OwnI.nil _ _ _ _), BB1⟩
  | true =>
    cases he : endsB n es with
    | false =>
      have HG := Lib.hid hg
      have HE := Lib.hid he
      have HR := Lib.hid (holdG_no (n := n) (xs := xs) (es := es) (by rw [he]; simp))
      clear hg he
      go_enter Try.func50, Try.ntmps50
      go_wp2_with fail
      refine (graphOk_impl n a m cap xs _ (h.below hb0 (Nat.le_refl _))).mono ?_
      rintro e w1 ⟨rfl, hb1⟩
      rw [HG.out]
      obtain ⟨hc, hf⟩ := bcell hb1
      have c0 : w1.cell? ⟨w.heap.size, 0, none⟩ = some (.int .i64 n) := by rw [hc _ _ (by simp)]; simp [go_sem]
      have BB1 := hb0.trans (hb1.mono (by simp))
      clear hc hf
      go_wp2_with fail
      refine (endsOk_impl n a2 m2 cap2 es _ (h'.below BB1 (Nat.le_refl _))).mono ?_
      rintro e w2 ⟨rfl, hb2⟩
      rw [HE.out]
      go_wp2
      go_ret
      rw [HR.out]
      have BB2 := BB1.trans (hb2.mono BB1.size)
      exact ⟨none, 0, 0, rfl, (OwnI.nil _ _ _ _), BB2⟩
    | true =>
      obtain ⟨q1, q2, q3, q4⟩ := graphB_yes hg
      have HQ := Lib.hid (fun v h0 h1 => iv_in (v := v) he h0 h1)
      have HGE := Lib.hid q4
      have HR := Lib.hid (holdG_yes hg he)
      have HG := Lib.hid hg
      have HE := Lib.hid he
      rw [hL.out] at q3
      clear hg he q4
      obtain ⟨i0, hi, hz0, hz1, hz2⟩ := info_parts infoIntS
      go_enter Try.func50, Try.ntmps50
      go_wp2_with fail
      refine (graphOk_impl n a m cap xs _ (h.below hb0 (Nat.le_refl _))).mono ?_
      rintro e w1 ⟨rfl, hb1⟩
      rw [HG.out]
      obtain ⟨hc, hf⟩ := bcell hb1
      have c0 : w1.cell? ⟨w.heap.size, 0, none⟩ = some (.int .i64 n) := by rw [hc _ _ (by simp)]; simp [go_sem]
      have c1 : w1.cell? ⟨w.heap.size, 1, none⟩ = some (.slice a m cap) := by rw [hc _ _ (by simp)]; simp [go_sem]
      have BB1 := hb0.trans (hb1.mono (by simp))
      have sz1 : w.heap.size < w1.heap.size := by have := hb1.size; simp at this; omega
      clear hc hf hb1
      go_wp2_with fail
      refine (endsOk_impl n a2 m2 cap2 es _ (h'.below BB1 (Nat.le_refl _))).mono ?_
      rintro e w2 ⟨rfl, hb2⟩
      rw [HE.out]
      have d1 := cell_later hb2 c1
      have BB2 := BB1.trans (hb2.mono BB1.size)
      have sz2 : w.heap.size < w2.heap.size := Nat.lt_of_lt_of_le sz1 hb2.size
      clear c0 c1 hb2
      go_wp2_with (at_make; refine wpList_make_full _ rfl _ _ 51 rfl w2.heap.size 3 i0 (.int .i64 0) 1 Try.underlying51 hi hz0 hz1 _ _ _ _ m2 rfl rfl rfl rfl ?b1 ?b2 ?b3 ?_)
      case b1 => rw [hz2]; omega
      case b2 => unfold maxLen; omega
      case b3 => simp
      intro w3 hown hgrow
      have hbel := below_grown hgrow (Nat.le_refl _) (by simp)
      have e1 := cell_later hbel d1
      have hown1 : w3.ownsRow w2.heap.size 3 1 (.slice (some ⟨w2.heap.size, 0, none⟩) m2 m2) m2 ((tally m2 (holdI es (xs.take 0))).map (.int .i64)) := by
        simpa [toList_madeCells_one, tally, holdI, Value.cells] using hown
      have hbig := hown1.lt _ rfl
      clear hown hgrow hi hz0 hz1 hz2 d1
      go_wp2
      go_loopw [24] (fun i wr => ∃ k : Nat, k ≤ m ∧ i = .int .i64 k ∧ wr.ownsRow w2.heap.size 3 1 (.slice (some ⟨w2.heap.size, 0, none⟩) m2 m2) m2 ((tally m2 (holdI es (xs.take k))).map (.int .i64)) ∧ Below w2.heap.size w2 wr) (fun i _ => m - (intOf i).toNat)
      case atStart => exact ⟨0, Nat.zero_le _, rfl, hown1, hbel⟩
      case round =>
        obtain ⟨k, hk, rfl, ho, hb⟩ := hrel
        clear hown1 hbel e1 hbig
        by_cases hlt : k < m
        · obtain ⟨b1, off1, rfl, hbl1, hc1⟩ := h.edges (by omega)
          have cb : ∀ o, wr.cell? ⟨b1, o, none⟩ = w.cell? ⟨b1, o, none⟩ := fun o => (hb.cell (p := ⟨b1, o, none⟩) (Nat.lt_of_lt_of_le hbl1 BB2.size)).trans (BB2.cell (p := ⟨b1, o, none⟩) hbl1)
          obtain ⟨k0, k1, k2⟩ := hc1 k hlt
          rw [← cb] at k0 k1 k2
          have hkx : k < xs.length := by rw [hL.out]; exact hlt
          obtain ⟨r1, r2, r3, r4, r5, r6⟩ := edgeB_yes (HGE.out k hkx)
          obtain ⟨T, hT, hTN⟩ := HQ.out _ r3 r4
          rw [hL2.out] at hTN
          have HS := Lib.hid (holdI_snoc es xs k hkx)
          have hbig := (ho.lt _ rfl).2
          have hi1 : (k : Int) < (m : Int) := by omega
          have RD' := h'.below (BB2.trans (hb.mono BB2.size)) (Nat.le_refl _)
          have HTT := Lib.hid hT
          clear hc1 cb h hT
          generalize edgeAt xs k = x at *
          obtain ⟨fr, to, wt⟩ := x
          simp only at k0 k1 k2 r1 r2 r3 r4 r5 r6 HS HTT
          have hset := tally_set m2 (holdI es (xs.take k)) T
          have hbd := tally_bd m2 (holdI es (xs.take k)) T
          have hlen : (holdI es (xs.take k)).length ≤ 400 := by simp [holdI]; omega
          have HC := Lib.hid (fun (w' : World) (hh : w'.ownsRow w2.heap.size 3 1 (.slice (some ⟨w2.heap.size, 0, none⟩) m2 m2) m2 ((tally m2 (holdI es (xs.take k))).map (.int .i64))) => tally_own hTN hh)
          have HST := Lib.hid (fun (w' : World) (hh : w'.ownsRow w2.heap.size 3 1 (.slice (some ⟨w2.heap.size, 0, none⟩) m2 m2) m2 ((tally m2 (holdI es (xs.take k))).map (.int .i64))) => (hh.stored T (.int .i64 ((tally m2 (holdI es (xs.take k))).getD T 0 + 1))).1)
          rw [hset] at HST
          generalize (tally m2 (holdI es (xs.take k))).getD T 0 = V at *
          have v0 : 0 ≤ V := hbd.1
          have v1 : V ≤ 400 := by omega
          clear hbd hset hlen
          have ho1 := ho.alloc (.cells #[.int .i64 fr, .int .i64 to, .int .i64 wt] 89)
          have hbx := hb.alloc hb.size (.cells #[.int .i64 fr, .int .i64 to, .int .i64 wt] 89)
          go_wp2_with fail
          refine (intervalOf_impl to a2 m2 cap2 es _ (RD'.below ((Below.refl _ _).alloc (Nat.le_refl _) _) (Nat.le_refl _))).mono ?_
          rintro e w4 ⟨rfl, hb4⟩
          rw [HTT.out]
          have ho4 := own_below ho1 hb4 (Nat.le_refl _)
          have hb5 := hbx.trans (hb4.mono hbx.size)
          have hcell := HC.out _ ho4
          have hfr := ho4.frozenAt T
          have st := Lib.hid (HST.out _ ho4)
          have hbo := hb5.setCell (p := ⟨w2.heap.size, T, none⟩) (Nat.le_refl _) (.int .i64 (V + 1))
          clear HC HST ho4 ho1 ho
          go_wp2
          go_roundw
          case rel => exact ⟨k + 1, by omega, by go_num, by rw [HS.out, HTT.out, Int.toNat_natCast]; exact st.out, hbo⟩
          case measure => simp [intOf]; omega
        · obtain rfl : k = m := by omega
          rw [List.take_of_length_le (by rw [hL.out]; exact Nat.le_refl _)] at ho
          go_wp2
          go_ret
          rw [HR.out, hL2.out]
          exact ⟨some ⟨w2.heap.size, 0, none⟩, m2, m2, rfl, (OwnI.of ho (tally_len _ _) (by omega)).lo_le BB2.size, BB2.trans (hb.mono BB2.size)⟩
theorem holds_impl_u (y : GraphR) (D : Int × List EdgeR) (hD : datGraph y = D) (a2 : Option Addr) (m2 cap2 : Nat) (es : List Int) (w : World) (g : goodGraph w y) (h' : Rd (encI .i64) 1 w a2 m2 cap2 es) (hm2 : m2 ≤ 1048576) :
    Calls Try.prog 50 #[.agg #[.int .i64 y.n, .slice y.edgesA y.edgesN y.edgesC], .slice a2 m2 cap2] w fun e w' => RetL .i64 3 (holdG D.1 D.2 es) w e w' := by
  subst hD
  exact holds_impl _ _ _ _ _ _ _ _ _ _ g.2.1 h' hm2
set_option maxRecDepth 100000 in
set_option maxHeartbeats 1600000 in
theorem holds_spec (n : Int) (a : Option Addr) (m cap : Nat) (xs : List EdgeR) (a2 : Option Addr) (m2 cap2 : Nat) (es : List Int) (w : World) (h : Rd encEdge 3 w a m cap xs) (h' : Rd (encI .i64) 1 w a2 m2 cap2 es) (hm2 : m2 ≤ 1048576) :
    Calls Try.prog 48 #[.agg #[.int .i64 n, .slice a m cap], .slice a2 m2 cap2] w fun e w' => RetL .i64 3 (holdG n xs es) w e w' := by
  have hL := Lib.hid h.len
  have hL2 := Lib.hid h'.len
  have hm := h.max
  have hle := h.le
  unfold maxLen at hm
  have hb0 := (Below.refl w.heap.size w).alloc (Nat.le_refl _) (.cells #[.int .i64 n, .slice a m cap] 36)
  cases hg : graphB n xs with
  | false =>
    have HG := Lib.hid hg
    have HR := Lib.hid (holdG_no (n := n) (xs := xs) (es := es) (by rw [hg]; simp))
    clear hg
    go_enter Try.func48, Try.ntmps48
    go_wp2_with fail
    refine (graphOk_spec n a m cap xs _ (h.below hb0 (Nat.le_refl _))).mono ?_
    rintro e w1 ⟨rfl, hb1⟩
    rw [HG.out]
    go_wp2
    go_ret
    rw [HR.out]
    have BB1 := hb0.trans (hb1.mono (by simp))
    exact ⟨none, 0, 0, rfl, (OwnI.nil _ _ _ _), BB1⟩
  | true =>
    cases he : endsB n es with
    | false =>
      have HG := Lib.hid hg
      have HE := Lib.hid he
      have HR := Lib.hid (holdG_no (n := n) (xs := xs) (es := es) (by rw [he]; simp))
      clear hg he
      go_enter Try.func48, Try.ntmps48
      go_wp2_with fail
      refine (graphOk_spec n a m cap xs _ (h.below hb0 (Nat.le_refl _))).mono ?_
      rintro e w1 ⟨rfl, hb1⟩
      rw [HG.out]
      obtain ⟨hc, hf⟩ := bcell hb1
      have c0 : w1.cell? ⟨w.heap.size, 0, none⟩ = some (.int .i64 n) := by rw [hc _ _ (by simp)]; simp [go_sem]
      have BB1 := hb0.trans (hb1.mono (by simp))
      clear hc hf
      go_wp2_with fail
      refine (endsOk_spec n a2 m2 cap2 es _ (h'.below BB1 (Nat.le_refl _))).mono ?_
      rintro e w2 ⟨rfl, hb2⟩
      rw [HE.out]
      go_wp2
      go_ret
      rw [HR.out]
      have BB2 := BB1.trans (hb2.mono BB1.size)
      exact ⟨none, 0, 0, rfl, (OwnI.nil _ _ _ _), BB2⟩
    | true =>
      obtain ⟨q1, q2, q3, q4⟩ := graphB_yes hg
      have HQ := Lib.hid (fun v h0 h1 => iv_in (v := v) he h0 h1)
      have HGE := Lib.hid q4
      have HR := Lib.hid (holdG_yes hg he)
      have HG := Lib.hid hg
      have HE := Lib.hid he
      rw [hL.out] at q3
      clear hg he q4
      obtain ⟨i0, hi, hz0, hz1, hz2⟩ := info_parts infoIntS
      go_enter Try.func48, Try.ntmps48
      go_wp2_with fail
      refine (graphOk_spec n a m cap xs _ (h.below hb0 (Nat.le_refl _))).mono ?_
      rintro e w1 ⟨rfl, hb1⟩
      rw [HG.out]
      obtain ⟨hc, hf⟩ := bcell hb1
      have c0 : w1.cell? ⟨w.heap.size, 0, none⟩ = some (.int .i64 n) := by rw [hc _ _ (by simp)]; simp [go_sem]
      have c1 : w1.cell? ⟨w.heap.size, 1, none⟩ = some (.slice a m cap) := by rw [hc _ _ (by simp)]; simp [go_sem]
      have BB1 := hb0.trans (hb1.mono (by simp))
      have sz1 : w.heap.size < w1.heap.size := by have := hb1.size; simp at this; omega
      clear hc hf hb1
      go_wp2_with fail
      refine (endsOk_spec n a2 m2 cap2 es _ (h'.below BB1 (Nat.le_refl _))).mono ?_
      rintro e w2 ⟨rfl, hb2⟩
      rw [HE.out]
      have d1 := cell_later hb2 c1
      have BB2 := BB1.trans (hb2.mono BB1.size)
      have sz2 : w.heap.size < w2.heap.size := Nat.lt_of_lt_of_le sz1 hb2.size
      clear c0 c1 hb2
      go_wp2_with (at_make; refine wpList_make_full _ rfl _ _ 51 rfl w2.heap.size 3 i0 (.int .i64 0) 1 Try.underlying51 hi hz0 hz1 _ _ _ _ m2 rfl rfl rfl rfl ?b1 ?b2 ?b3 ?_)
      case b1 => rw [hz2]; omega
      case b2 => unfold maxLen; omega
      case b3 => simp
      intro w3 hown hgrow
      have hbel := below_grown hgrow (Nat.le_refl _) (by simp)
      have e1 := cell_later hbel d1
      have hown1 : w3.ownsRow w2.heap.size 3 1 (.slice (some ⟨w2.heap.size, 0, none⟩) m2 m2) m2 ((tally m2 (holdI es (xs.take 0))).map (.int .i64)) := by
        simpa [toList_madeCells_one, tally, holdI, Value.cells] using hown
      have hbig := hown1.lt _ rfl
      clear hown hgrow hi hz0 hz1 hz2 d1
      go_wp2
      go_loopw [24] (fun i wr => ∃ k : Nat, k ≤ m ∧ i = .int .i64 k ∧ wr.ownsRow w2.heap.size 3 1 (.slice (some ⟨w2.heap.size, 0, none⟩) m2 m2) m2 ((tally m2 (holdI es (xs.take k))).map (.int .i64)) ∧ Below w2.heap.size w2 wr) (fun i _ => m - (intOf i).toNat)
      case atStart => exact ⟨0, Nat.zero_le _, rfl, hown1, hbel⟩
      case round =>
        obtain ⟨k, hk, rfl, ho, hb⟩ := hrel
        clear hown1 hbel e1 hbig
        by_cases hlt : k < m
        · obtain ⟨b1, off1, rfl, hbl1, hc1⟩ := h.edges (by omega)
          have cb : ∀ o, wr.cell? ⟨b1, o, none⟩ = w.cell? ⟨b1, o, none⟩ := fun o => (hb.cell (p := ⟨b1, o, none⟩) (Nat.lt_of_lt_of_le hbl1 BB2.size)).trans (BB2.cell (p := ⟨b1, o, none⟩) hbl1)
          obtain ⟨k0, k1, k2⟩ := hc1 k hlt
          rw [← cb] at k0 k1 k2
          have hkx : k < xs.length := by rw [hL.out]; exact hlt
          obtain ⟨r1, r2, r3, r4, r5, r6⟩ := edgeB_yes (HGE.out k hkx)
          obtain ⟨T, hT, hTN⟩ := HQ.out _ r3 r4
          rw [hL2.out] at hTN
          have HS := Lib.hid (holdI_snoc es xs k hkx)
          have hbig := (ho.lt _ rfl).2
          have hi1 : (k : Int) < (m : Int) := by omega
          have RD' := h'.below (BB2.trans (hb.mono BB2.size)) (Nat.le_refl _)
          have HTT := Lib.hid hT
          clear hc1 cb h hT
          generalize edgeAt xs k = x at *
          obtain ⟨fr, to, wt⟩ := x
          simp only at k0 k1 k2 r1 r2 r3 r4 r5 r6 HS HTT
          have hset := tally_set m2 (holdI es (xs.take k)) T
          have hbd := tally_bd m2 (holdI es (xs.take k)) T
          have hlen : (holdI es (xs.take k)).length ≤ 400 := by simp [holdI]; omega
          have HC := Lib.hid (fun (w' : World) (hh : w'.ownsRow w2.heap.size 3 1 (.slice (some ⟨w2.heap.size, 0, none⟩) m2 m2) m2 ((tally m2 (holdI es (xs.take k))).map (.int .i64))) => tally_own hTN hh)
          have HST := Lib.hid (fun (w' : World) (hh : w'.ownsRow w2.heap.size 3 1 (.slice (some ⟨w2.heap.size, 0, none⟩) m2 m2) m2 ((tally m2 (holdI es (xs.take k))).map (.int .i64))) => (hh.stored T (.int .i64 ((tally m2 (holdI es (xs.take k))).getD T 0 + 1))).1)
          rw [hset] at HST
          generalize (tally m2 (holdI es (xs.take k))).getD T 0 = V at *
          have v0 : 0 ≤ V := hbd.1
          have v1 : V ≤ 400 := by omega
          clear hbd hset hlen
          have ho1 := ho.alloc (.cells #[.int .i64 fr, .int .i64 to, .int .i64 wt] 89)
          have hbx := hb.alloc hb.size (.cells #[.int .i64 fr, .int .i64 to, .int .i64 wt] 89)
          go_wp2_with fail
          refine (intervalOf_spec to a2 m2 cap2 es _ (RD'.below ((Below.refl _ _).alloc (Nat.le_refl _) _) (Nat.le_refl _))).mono ?_
          rintro e w4 ⟨rfl, hb4⟩
          rw [HTT.out]
          have ho4 := own_below ho1 hb4 (Nat.le_refl _)
          have hb5 := hbx.trans (hb4.mono hbx.size)
          have hcell := HC.out _ ho4
          have hfr := ho4.frozenAt T
          have st := Lib.hid (HST.out _ ho4)
          have hbo := hb5.setCell (p := ⟨w2.heap.size, T, none⟩) (Nat.le_refl _) (.int .i64 (V + 1))
          clear HC HST ho4 ho1 ho
          go_wp2
          go_roundw
          case rel => exact ⟨k + 1, by omega, by go_num, by rw [HS.out, HTT.out, Int.toNat_natCast]; exact st.out, hbo⟩
          case measure => simp [intOf]; omega
        · obtain rfl : k = m := by omega
          rw [List.take_of_length_le (by rw [hL.out]; exact Nat.le_refl _)] at ho
          go_wp2
          go_ret
          rw [HR.out, hL2.out]
          exact ⟨some ⟨w2.heap.size, 0, none⟩, m2, m2, rfl, (OwnI.of ho (tally_len _ _) (by omega)).lo_le BB2.size, BB2.trans (hb.mono BB2.size)⟩
theorem holds_spec_u (y : GraphR) (D : Int × List EdgeR) (hD : datGraph y = D) (a2 : Option Addr) (m2 cap2 : Nat) (es : List Int) (w : World) (g : goodGraph w y) (h' : Rd (encI .i64) 1 w a2 m2 cap2 es) (hm2 : m2 ≤ 1048576) :
    Calls Try.prog 48 #[.agg #[.int .i64 y.n, .slice y.edgesA y.edgesN y.edgesC], .slice a2 m2 cap2] w fun e w' => RetL .i64 3 (holdG D.1 D.2 es) w e w' := by
  subst hD
  exact holds_spec _ _ _ _ _ _ _ _ _ _ g.2.1 h' hm2
end Go.Proofs.Ytifaekkbdmcehaa
