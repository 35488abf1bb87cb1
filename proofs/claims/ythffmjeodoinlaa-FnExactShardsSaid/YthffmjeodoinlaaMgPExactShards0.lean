import Derived.Test.YthffmjeodoinlaaRows
import Derived.Test.YthffmjeodoinlaaOpen
import Derived.Test.YthffmjeodoinlaaRowS
import Derived.Test.YthffmjeodoinlaaKeep
import Derived.Test.YthffmjeodoinlaaRowM
import Derived.Test.YthffmjeodoinlaaOwn
import Derived.Test.YthffmjeodoinlaaIntS
import Derived.Test.YthffmjeodoinlaaDegP
import Derived.Test.YthffmjeodoinlaaLib
import Derived.Test.YthffmjeodoinlaaNest
import Derived.Test.YthffmjeodoinlaaRow
import Derived.ProofKit
/- The struct Edge as data: its cells, and what the form's reading of it gives. -/
namespace Go.Proofs.Ythffmjeodoinlaa
open Go.ChangeShapes Go.WideShapes Go.ChangeAt Go.RowKit Go.Deep
structure EdgeR where
  fr : Int
  to : Int
  wt : Int
deriving DecidableEq
def encEdge (r : EdgeR) : List Value := [.int .i64 r.fr, .int .i64 r.to, .int .i64 r.wt]
def goodEdge (_w : World) (r : EdgeR) : Prop := (In64 r.fr) ∧ (In64 r.to) ∧ (In64 r.wt)
theorem opEdge {H : Type} {enc : TypeId × Value → H} {w : World} {base : Nat} {spare : Nat → Bool} {held : Bool} (n : Nat) (cs : List Value) (x : DataW H × List MemPlace) (h : DataW.trod enc Try.prog w base spare held n 111 cs = some x) :
    ∃ y : EdgeR, cs = encEdge y ∧ goodEdge w y := by
  obtain ⟨hl, hf⟩ := op_st Try.underlying111 (by kernel_rfl) (by kernel_rfl) h
  obtain ⟨c0, c1, c2, rfl⟩ : ∃ c0 c1 c2, cs = [c0, c1, c2] := by
    match cs, hl with
    | [c0, c1, c2], _ => exact ⟨c0, c1, c2, rfl⟩
  obtain ⟨n0, v0, y0, hv0, ht0⟩ := hf 0 _ rfl
  obtain rfl : c0 = v0 := by simpa using hv0
  obtain ⟨z0, e0, g0⟩ := op_i64 Try.underlying3 n0 _ _ ht0
  obtain rfl : c0 = .int .i64 z0 := by simpa [encI] using e0
  obtain ⟨n1, v1, y1, hv1, ht1⟩ := hf 1 _ rfl
  obtain rfl : c1 = v1 := by simpa using hv1
  obtain ⟨z1, e1, g1⟩ := op_i64 Try.underlying3 n1 _ _ ht1
  obtain rfl : c1 = .int .i64 z1 := by simpa [encI] using e1
  obtain ⟨n2, v2, y2, hv2, ht2⟩ := hf 2 _ rfl
  obtain rfl : c2 = v2 := by simpa using hv2
  obtain ⟨z2, e2, g2⟩ := op_i64 Try.underlying3 n2 _ _ ht2
  obtain rfl : c2 = .int .i64 z2 := by simpa [encI] using e2
  exact ⟨⟨z0, z1, z2⟩, rfl, g0, g1, g2⟩
theorem goodEdge_below {w w' : World} {r : EdgeR} (h : goodEdge w r) {B : Nat} (_hb : Below B w w') (_hB : w.heap.size ≤ B) : goodEdge w' r := ⟨h.1, h.2.1, h.2.2⟩
end Go.Proofs.Ythffmjeodoinlaa

/- The struct Graph as data: its cells, and what the form's reading of it gives. -/
namespace Go.Proofs.Ythffmjeodoinlaa
open Go.ChangeShapes Go.WideShapes Go.ChangeAt Go.RowKit Go.Deep
structure GraphR where
  n : Int
  edgesA : Option Addr
  edgesN : Nat
  edgesC : Nat
  edges : List EdgeR
def encGraph (r : GraphR) : List Value := [.int .i64 r.n, .slice r.edgesA r.edgesN r.edgesC]
def goodGraph (w : World) (r : GraphR) : Prop := (In64 r.n) ∧ (Rd encEdge 3 w r.edgesA r.edgesN r.edgesC r.edges ∧ ∀ y ∈ r.edges, (goodEdge w) y)
theorem opGraph {H : Type} {enc : TypeId × Value → H} {w : World} {base : Nat} {spare : Nat → Bool} {held : Bool} (n : Nat) (cs : List Value) (x : DataW H × List MemPlace) (h : DataW.trod enc Try.prog w base spare held n 45 cs = some x) :
    ∃ y : GraphR, cs = encGraph y ∧ goodGraph w y := by
  obtain ⟨hl, hf⟩ := op_st Try.underlying45 (by kernel_rfl) (by kernel_rfl) h
  obtain ⟨c0, c1, rfl⟩ : ∃ c0 c1, cs = [c0, c1] := by
    match cs, hl with
    | [c0, c1], _ => exact ⟨c0, c1, rfl⟩
  obtain ⟨n0, v0, y0, hv0, ht0⟩ := hf 0 _ rfl
  obtain rfl : c0 = v0 := by simpa using hv0
  obtain ⟨z0, e0, g0⟩ := op_i64 Try.underlying3 n0 _ _ ht0
  obtain rfl : c0 = .int .i64 z0 := by simpa [encI] using e0
  obtain ⟨n1, v1, y1, hv1, ht1⟩ := hf 1 _ rfl
  obtain rfl : c1 = v1 := by simpa using hv1
  obtain ⟨a1, m1, k1, z1, e1, g1⟩ := op_sl (sz := 3) Try.underlying43 (by kernel_rfl) (by decide) opEdge n1 _ _ ht1
  obtain rfl : c1 = .slice a1 m1 k1 := by simpa using e1
  exact ⟨⟨z0, a1, m1, k1, z1⟩, rfl, g0, g1⟩
theorem goodGraph_below {w w' : World} {r : GraphR} (h : goodGraph w r) {B : Nat} (hb : Below B w w') (hB : w.heap.size ≤ B) : goodGraph w' r := ⟨h.1, ⟨h.2.1.below hb hB, fun y hy => goodEdge_below (h.2.2 y hy) hb hB⟩⟩
end Go.Proofs.Ythffmjeodoinlaa

/- Rows of the struct Edge: its cells, toX, eqX, toXS, eqXS, szXS of the statements. -/
namespace Go.Proofs.Ythffmjeodoinlaa
open Go.RowKit
def atEdge (xs : List EdgeR) (j : Nat) : EdgeR := xs.getD j ⟨0, 0, 0⟩
theorem atEdge_eq (xs : List EdgeR) (j : Nat) (h : j < xs.length) : atEdge xs j = xs[j] := by simp [atEdge, List.getD, h]
theorem lenEdge : ∀ x : EdgeR, (encEdge x).length = 3 := fun _ => rfl
/-- The cells of a row, in the walk's own spelling. -/
theorem Rd.rowEdge {w : World} {a : Option Addr} {n cap : Nat} {xs : List EdgeR} (h : Rd encEdge 3 w a n cap xs) (hn : 0 < n) :
    ∃ b off, a = some ⟨b, off, none⟩ ∧ b < w.heap.size ∧ ∀ j, j < n → w.cell? ⟨b, off + j * 3, none⟩ = some (.int .i64 (atEdge xs j).fr) ∧ w.cell? ⟨b, off + j * 3 + 1, none⟩ = some (.int .i64 (atEdge xs j).to) ∧ w.cell? ⟨b, off + j * 3 + 2, none⟩ = some (.int .i64 (atEdge xs j).wt) := by
  obtain ⟨b, off, ha, hl, hc⟩ := h.spot hn
  refine ⟨b, off, ha, hl, fun j hj => ?_⟩
  have hj' : j < xs.length := by rw [h.len]; exact hj
  rw [atEdge_eq xs j hj']
  exact ⟨hc j hj' 0 (.int .i64 xs[j].fr) rfl, hc j hj' 1 (.int .i64 xs[j].to) rfl, hc j hj' 2 (.int .i64 xs[j].wt) rfl⟩
set_option maxHeartbeats 800000 in
theorem toEdge_any (r : EdgeR) (w : World) : Calls Try.prog 71 #[.agg #[.int .i64 r.fr, .int .i64 r.to, .int .i64 r.wt]] w fun e w' => e = .returned (.agg #[.int .i64 r.fr, .int .i64 r.to, .int .i64 r.wt]) ∧ Below w.heap.size w w' := by
  have hb0 := ((Below.refl w.heap.size w).alloc (Nat.le_refl _) (.cells #[.int .i64 r.fr, .int .i64 r.to, .int .i64 r.wt] 111) |>.alloc (by simp) (.cells #[.int .i64 r.fr, .int .i64 r.to, .int .i64 r.wt] 81)).alloc (by simp; omega) (.cells #[.int .i64 r.fr, .int .i64 r.to, .int .i64 r.wt] 81)
  go_enter Try.func71, Try.ntmps71
  go_wp2
  refine bodyPost_ret (v := .agg #[.int .i64 r.fr, .int .i64 r.to, .int .i64 r.wt]) (by simp [results, Try.results71, go_sem]) rfl ?_
  exact ⟨rfl, hb0⟩
set_option maxHeartbeats 1600000 in
theorem eqEdge_any (r s : EdgeR) (w : World) : Calls Try.prog 73 #[.agg #[.int .i64 r.fr, .int .i64 r.to, .int .i64 r.wt], .agg #[.int .i64 s.fr, .int .i64 s.to, .int .i64 s.wt]] w fun e w' => e = .returned (.bool (decide (r = s))) ∧ Below w.heap.size w w' := by
  have hb0 := ((Below.refl w.heap.size w).alloc (Nat.le_refl _) (.cells #[.int .i64 r.fr, .int .i64 r.to, .int .i64 r.wt] 81)).alloc (by simp) (.cells #[.int .i64 s.fr, .int .i64 s.to, .int .i64 s.wt] 81)
  obtain ⟨a0, a1, a2⟩ := r
  obtain ⟨b0, b1, b2⟩ := s
  simp only at *
  by_cases h : (⟨a0, a1, a2⟩ : EdgeR) = ⟨b0, b1, b2⟩
  · cases h
    go_enter Try.func73, Try.ntmps73
    go_wp2
    go_ret
    exact ⟨rfl, hb0⟩
  · have hh : ((a0 != b0) = true) ∨ (a0 = b0 ∧ (a1 != b1) = true) ∨ (a0 = b0 ∧ a1 = b1 ∧ (a2 != b2) = true) := by
      simp only [EdgeR.mk.injEq] at h
      simp only [bne_iff_ne, ne_eq]
      omega
    obtain ⟨q, hq, HD⟩ : ∃ q, q = false ∧ Hid (decide ((⟨a0, a1, a2⟩ : EdgeR) = ⟨b0, b1, b2⟩) = q) := ⟨_, decide_eq_false h, Lib.hid rfl⟩
    clear h
    rcases hh with h | ⟨rfl, h⟩ | ⟨rfl, rfl, h⟩ <;> (go_enter Try.func73, Try.ntmps73; go_wp2; go_ret; exact ⟨by rw [HD.out, hq]; rfl, hb0⟩)
theorem szEdgeS_any (a : Option Addr) (n cap : Nat) (left : Int) (w : World) (h1 : 0 ≤ left) (h2 : left ≤ 1048576) (hn : n ≤ 9223372036854775807) :
    Calls Try.prog 49 #[.slice a n cap, .int .i64 left] w fun e w' => e = .returned (.int .i64 (leftB left n)) ∧ Below w.heap.size w w' := by
  by_cases h : left < n
  · have HL := Lib.hid (leftB_no h)
    go_enter Try.func49, Try.ntmps49
    go_wp2
    go_ret
    exact ⟨by rw [HL.out]; rfl, Below.refl _ _⟩
  · have HL := Lib.hid (leftB_yes h)
    go_enter Try.func49, Try.ntmps49
    go_wp2
    go_ret
    exact ⟨by rw [HL.out]; rfl, Below.refl _ _⟩
theorem infoEdge : (Try.prog.info? 81).map (fun i => (i.zero, i.size, i.bytes)) = some (some (.agg #[.int .i64 0, .int .i64 0, .int .i64 0]), 3, 24) := by kernel_rfl
set_option maxHeartbeats 1600000 in
theorem toEdgeS_any (a : Option Addr) (n cap : Nat) (xs : List EdgeR) (w : World) (h : Rd encEdge 3 w a n cap xs) (hn : n ≤ 1048576) :
    Calls Try.prog 54 #[.slice a n cap] w fun e w' => ∃ g, e = .returned (.slice (some ⟨g, 0, none⟩) n n) ∧ OwnS encEdge 3 81 w.heap.size w'.heap.size w' (some ⟨g, 0, none⟩) n n xs ∧ Below w.heap.size w w' := by
  obtain ⟨i0, hi, hz0, hz1, hz2⟩ := info_parts infoEdge
  have hL := Lib.hid h.len
  have hm := h.max
  have hle := h.le
  unfold maxLen at hm
  go_enter Try.func54, Try.ntmps54
  go_wp2_with (at_make; refine wpList_make_full _ rfl _ _ 50 rfl w.heap.size 81 i0 (.agg #[.int .i64 0, .int .i64 0, .int .i64 0]) 3 Try.underlying50 hi hz0 hz1 _ _ _ _ n rfl rfl rfl rfl ?b1 ?b2 ?b3 ?_)
  case b1 => rw [hz2]; omega
  case b2 => unfold maxLen; omega
  case b3 => simp
  intro w1 hown hgrow
  have hbel := below_grown hgrow (Nat.le_refl _) (by simp)
  have hown1 : w1.ownsRow w.heap.size 81 3 (.slice (some ⟨w.heap.size, 0, none⟩) n n) n ((cpyS (⟨0, 0, 0⟩ : EdgeR) xs 0).flatMap encEdge) := by
    have e := made_flat encEdge (⟨0, 0, 0⟩ : EdgeR) (by decide) n 3 rfl
    unfold cpyS
    simp only [List.take_zero, List.nil_append, Nat.sub_zero, hL.out]
    rw [← e]
    exact hown
  clear hown hgrow hi hz0 hz1 hz2
  go_wp2
  go_loopw [4] (fun i wr => ∃ k : Nat, k ≤ n ∧ i = .int .i64 k ∧ wr.ownsRow w.heap.size 81 3 (.slice (some ⟨w.heap.size, 0, none⟩) n n) n ((cpyS (⟨0, 0, 0⟩ : EdgeR) xs k).flatMap encEdge) ∧ Below w.heap.size w wr) (fun i _ => n - (intOf i).toNat)
  case atStart => exact ⟨0, Nat.zero_le _, rfl, hown1, hbel⟩
  case round =>
    obtain ⟨k, hk, rfl, ho, hb⟩ := hrel
    by_cases hlt : k < n
    · obtain ⟨b, off, rfl, hbl, hc⟩ := h.rowEdge (by omega)
      obtain ⟨k0, k1, k2⟩ := hc k hlt
      have cb : ∀ o, wr.cell? ⟨b, o, none⟩ = w.cell? ⟨b, o, none⟩ := fun o => hb.cell (p := ⟨b, o, none⟩) hbl
      rw [← cb] at k0 k1 k2
      have hkx : k < xs.length := by rw [hL.out]; exact hlt
      have hset := flat_set encEdge 3 lenEdge (cpyS (⟨0, 0, 0⟩ : EdgeR) xs k) k (by rw [cpyS_len _ _ _ (by omega)]; exact hkx) xs[k]
      rw [cpyS_set _ _ _ hkx, ← atEdge_eq xs k hkx] at hset
      have HS := Lib.hid hset
      clear hset hc cb h
      generalize hx : atEdge xs k = x at *
      clear hx
      go_wp2_with fail
      refine (toEdge_any x _).mono ?_
      rintro e w2 ⟨rfl, hb2⟩
      have ho2 := own_below ho hb2 (Nat.le_refl _)
      have hb3 := hb.trans (hb2.mono hb.size)
      have hf0 := ho2.frozenAt (k * 3)
      have hf1 := ho2.frozenAt (k * 3 + 1)
      have hf2 := ho2.frozenAt (k * 3 + 2)
      have hd : ∀ i, i < 3 → ∃ d, w2.cell? ⟨w.heap.size, k * 3 + i, none⟩ = some d := fun i hi => by
        rw [ho2.cellAt _ (by omega)]
        exact ⟨_, List.getElem?_eq_getElem (by rw [ho2.1]; omega)⟩
      obtain ⟨d0, hd0⟩ := hd 0 (by omega)
      obtain ⟨d1, hd1⟩ := hd 1 (by omega)
      obtain ⟨d2, hd2⟩ := hd 2 (by omega)
      simp only [Nat.add_zero] at hd0
      clear hd
      have s0 := (ho2.stored (k * 3) (.int .i64 x.fr)).1
      have s1 := (s0.stored (k * 3 + 1) (.int .i64 x.to)).1
      have s2 := (s1.stored (k * 3 + 2) (.int .i64 x.wt)).1
      clear ho2 s0 s1 ho
      go_wp2
      go_roundw
      case rel => exact ⟨k + 1, by omega, by go_num, by rw [← HS.out]; exact s2, (((hb3).setCell (p := ⟨w.heap.size, k * 3, none⟩) (Nat.le_refl _) _).setCell (p := ⟨w.heap.size, k * 3 + 1, none⟩) (Nat.le_refl _) _).setCell (p := ⟨w.heap.size, k * 3 + 2, none⟩) (Nat.le_refl _) _⟩
      case measure => simp [intOf]; omega
    · obtain rfl : k = n := by omega
      rw [← hL.out, cpyS_all, hL.out] at ho
      go_wp2
      go_ret
      exact ⟨_, rfl, OwnS.of ho hL.out (by omega), hb⟩
theorem take_succEdge {xs ys : List EdgeR} {k : Nat} (h : xs.take k = ys.take k) (h1 : k < xs.length) (h2 : k < ys.length) (he : atEdge xs k = atEdge ys k) : xs.take (k + 1) = ys.take (k + 1) := by
  rw [List.take_succ_eq_append_getElem h1, List.take_succ_eq_append_getElem h2, h]
  rw [atEdge_eq xs k h1, atEdge_eq ys k h2] at he
  rw [he]
set_option maxHeartbeats 3200000 in
theorem eqEdgeS_any (a b : Option Addr) (n cap m cap' : Nat) (xs ys : List EdgeR) (w : World) (h : Rd encEdge 3 w a n cap xs) (h' : Rd encEdge 3 w b m cap' ys) :
    Calls Try.prog 60 #[.slice a n cap, .slice b m cap'] w fun e w' => e = .returned (.bool (decide (xs = ys))) ∧ Below w.heap.size w w' := by
  have hL := Lib.hid h.len
  have hL' := Lib.hid h'.len
  have hm := h.max
  have hle := h.le
  have hm' := h'.max
  have hle' := h'.le
  unfold maxLen at hm hm'
  by_cases hnm : n = m
  · subst hnm
    go_enter Try.func60, Try.ntmps60
    go_wp2
    go_loopw [5] (fun i wr => ∃ k : Nat, k ≤ n ∧ i = .int .i64 k ∧ xs.take k = ys.take k ∧ Below w.heap.size w wr) (fun i _ => n - (intOf i).toNat)
    case atStart => exact ⟨0, Nat.zero_le _, rfl, rfl, Below.refl _ _⟩
    case round =>
      obtain ⟨k, hk, rfl, he, hb⟩ := hrel
      have HE := Lib.hid he
      clear he
      by_cases hlt : k < n
      · obtain ⟨b1, off1, rfl, hbl1, hc1⟩ := h.rowEdge (by omega)
        obtain ⟨b2, off2, rfl, hbl2, hc2⟩ := h'.rowEdge (by omega)
        obtain ⟨k0, k1, k2⟩ := hc1 k hlt
        obtain ⟨l0, l1, l2⟩ := hc2 k hlt
        have cb1 : ∀ o, wr.cell? ⟨b1, o, none⟩ = w.cell? ⟨b1, o, none⟩ := fun o => hb.cell (p := ⟨b1, o, none⟩) hbl1
        have cb2 : ∀ o, wr.cell? ⟨b2, o, none⟩ = w.cell? ⟨b2, o, none⟩ := fun o => hb.cell (p := ⟨b2, o, none⟩) hbl2
        rw [← cb1] at k0 k1 k2
        rw [← cb2] at l0 l1 l2
        clear hc1 hc2 h h' cb1 cb2
        have hi1 : (k : Int) < (n : Int) := by omega
        have m1 : b1 < wr.heap.size := Nat.lt_of_lt_of_le hbl1 hb.size
        have m2 : b2 < wr.heap.size := Nat.lt_of_lt_of_le hbl2 hb.size
        have HT := Lib.hid (fun he => take_succEdge HE.out (by rw [hL.out]; exact hlt) (by rw [hL'.out]; exact hlt) he)
        have HN : Hid (atEdge xs k ≠ atEdge ys k → ¬ xs = ys) := Lib.hid (fun hne e => hne (by rw [e]))
        generalize hx : atEdge xs k = x at *
        generalize hy : atEdge ys k = y at *
        clear hx hy
        go_wp2_with fail
        go_region_held3 (fun w' => w'.cell? ⟨b1, off1 + k * 3, none⟩ = some (.int .i64 x.fr) ∧ w'.cell? ⟨b1, off1 + k * 3 + 1, none⟩ = some (.int .i64 x.to) ∧ w'.cell? ⟨b1, off1 + k * 3 + 2, none⟩ = some (.int .i64 x.wt) ∧ w'.cell? ⟨b2, off2 + k * 3, none⟩ = some (.int .i64 y.fr) ∧ w'.cell? ⟨b2, off2 + k * 3 + 1, none⟩ = some (.int .i64 y.to) ∧ w'.cell? ⟨b2, off2 + k * 3 + 2, none⟩ = some (.int .i64 y.wt) ∧ Below wr.heap.size wr w') (first | exact keepd6 (by assumption) | exact keep6 (by assumption) (Nat.le_refl _) (by assumption) | exact ⟨k0, k1, k2, l0, l1, l2, (Below.refl _ _).drew⟩) (first | (go_at_call 73; refine (eqEdge_any x y _).mono ?_; rintro e wa ⟨rfl, hba⟩))
        have hb2 : Below wr.heap.size wr _ := tail6 (by assumption)
        have hb3 := hb.trans (hb2.mono hb.size)
        by_cases hxy : x = y
        · have HQ := Lib.hid (decide_eq_true hxy)
          have HT2 := Lib.hid (HT.out hxy)
          rw [HQ.out]
          clear hxy HT HN
          go_wp2
          go_roundw
          case rel => exact ⟨k + 1, by omega, by go_num, HT2.out, hb3⟩
          case measure => simp [intOf]; omega
        · have HQ := Lib.hid (decide_eq_false hxy)
          have HT2 := Lib.hid (decide_eq_false (HN.out hxy))
          rw [HQ.out]
          clear hxy HT HN
          go_wp2
          go_ret
          exact ⟨by rw [HT2.out]; rfl, hb3⟩
      · obtain rfl : k = n := by omega
        go_wp2
        go_ret
        refine ⟨?_, hb⟩
        have := HE.out
        rw [List.take_of_length_le (by rw [hL.out]; exact Nat.le_refl _), List.take_of_length_le (by rw [hL'.out]; exact Nat.le_refl _)] at this
        simp [this]
  · have hne : ¬ xs = ys := fun e => hnm (by rw [← hL.out, ← hL'.out, e])
    have hi1 : ((n : Int) != (m : Int)) = true := by simp; omega
    go_enter Try.func60, Try.ntmps60
    go_wp2
    go_ret
    exact ⟨by simp [hne], Below.refl _ _⟩
end Go.Proofs.Ythffmjeodoinlaa

/- markTS, heldTS of the statements, for T = Edge: what each call does. -/
namespace Go.Proofs.Ythffmjeodoinlaa
open Go.RowKit
def mkEdge (k : Int) (j : Nat) : EdgeR := ⟨k + 3 * (j : Int), k + 3 * (j : Int) + 1, k + 3 * (j : Int) + 1 + 1⟩
def mksEdge (k : Int) (n : Nat) : List EdgeR := (List.range n).map (mkEdge k)
theorem mksEdge_len (k : Int) (n : Nat) : (mksEdge k n).length = n := by simp [mksEdge]
theorem mksEdge_at (k : Int) (n j : Nat) (h : j < n) : atEdge (mksEdge k n) j = mkEdge k j := by
  rw [atEdge_eq _ _ (by rw [mksEdge_len]; exact h)]
  simp [mksEdge]
set_option maxHeartbeats 1600000 in
theorem markEdgeS_any (a : Option Addr) (n cap : Nat) (zs : List EdgeR) (k : Int) (lo hi : Nat) (w : World) (h : OwnS encEdge 3 81 lo hi w a n cap zs) (hn : n ≤ 1073741824) (hk0 : 0 ≤ k) (hk1 : k ≤ 2305843009213693952) :
    Calls Try.prog 61 #[.slice a n cap, .int .i64 k] w fun e w' => e = .returned (.int .i64 (k + 3 * n)) ∧ OwnS encEdge 3 81 lo hi w' a n cap (mksEdge k n) ∧ Win lo hi w w' := by
  have HZ := Lib.hid h.len
  have HLT := Lib.hid h.lt
  have htop := h.top
  have hsm := h.small
  have hlo := Lib.hid (fun g hg => (World.ownsRow.lt h.own g hg).1)
  have how := h.own
  rw [← mkG_zero (mkEdge k) zs] at how
  clear h
  go_enter Try.func61, Try.ntmps61
  go_wp2
  go_loopw [1, 5] (fun q i wr => ∃ j : Nat, j ≤ n ∧ i = .int .i64 j ∧ q = .int .i64 (k + 3 * (j : Int)) ∧ wr.ownsRow lo 81 3 (.slice a n cap) n ((mkG (mkEdge k) zs j).flatMap encEdge) ∧ Win lo hi w wr) (fun _ i _ => n - (intOf i).toNat)
  case atStart => exact ⟨0, Nat.zero_le _, rfl, by go_num, how, Win.refl _ _ _⟩
  case round =>
    obtain ⟨j, hj, rfl, rfl, ho, hb⟩ := hrel
    clear how
    by_cases hlt : j < n
    · obtain ⟨g, rfl⟩ := own_some ho (by omega)
      have hg1 := hlo.out g rfl
      have hg2 := HLT.out g rfl
      have hji : (j : Int) < (n : Int) := by omega
      have hset := flat_set encEdge 3 lenEdge (mkG (mkEdge k) zs j) j (by rw [mkG_len _ _ _ (by rw [HZ.out]; exact hj), HZ.out]; exact hlt) (mkEdge k j)
      rw [mkG_set _ _ _ (by rw [HZ.out]; exact hlt)] at hset
      have HS := Lib.hid hset
      clear hset
      have hf0 := ho.frozenAt (j * 3)
      have hf1 := ho.frozenAt (j * 3 + 1)
      have hf2 := ho.frozenAt (j * 3 + 2)
      have hd : ∀ i, i < 3 → ∃ d, wr.cell? ⟨g, j * 3 + i, none⟩ = some d := fun i hi => by
        rw [ho.cellAt _ (by omega)]
        exact ⟨_, List.getElem?_eq_getElem (by rw [ho.1]; omega)⟩
      obtain ⟨d0, hd0⟩ := hd 0 (by omega)
      obtain ⟨d1, hd1⟩ := hd 1 (by omega)
      obtain ⟨d2, hd2⟩ := hd 2 (by omega)
      simp only [Nat.add_zero] at hd0
      clear hd
      have s0 := (ho.stored (j * 3) (.int .i64 (k + 3 * (j : Int)))).1
      have s1 := (s0.stored (j * 3 + 1) (.int .i64 (k + 3 * (j : Int) + 1))).1
      have s2 := (s1.stored (j * 3 + 2) (.int .i64 (k + 3 * (j : Int) + 1 + 1))).1
      clear ho s0 s1
      go_wp2
      go_roundw
      case rel => exact ⟨j + 1, by omega, by go_num, by go_num, by rw [← HS.out]; exact s2, (((hb.trans (Win.set _ g (j * 3) _ hg1 hg2)).trans (Win.set _ g (j * 3 + 1) _ hg1 hg2)).trans (Win.set _ g (j * 3 + 2) _ hg1 hg2))⟩
      case measure => simp [intOf]; omega
    · obtain rfl : j = n := by omega
      rw [← HZ.out, mkG_all, HZ.out] at ho
      go_wp2
      go_ret
      exact ⟨rfl, ⟨mksEdge_len _ _, ho, HLT.out, Nat.le_trans htop hb.size, hsm⟩, hb⟩
end Go.Proofs.Ythffmjeodoinlaa

/- Graph in the form that the laws' walks use: szX, toX, eqX, markX, heldX of the statements over a Graph of the call's own. -/
namespace Go.Proofs.Ythffmjeodoinlaa
open Go.RowKit
def datGraph (y : GraphR) : Int × List EdgeR := (y.n, y.edges)
def okGraph (y : GraphR) : Prop := (In64 y.n) ∧ ∀ w0 : World, ∀ z ∈ y.edges, goodEdge w0 z
structure OwnGraph (lo hi : Nat) (w : World) (y : GraphR) : Prop where
  row : OwnS encEdge 3 81 lo hi w y.edgesA y.edgesN y.edgesC y.edges
  top : hi ≤ w.heap.size
theorem OwnGraph.below {lo hi : Nat} {w w' : World} {y : GraphR} (h : OwnGraph lo hi w y) (hb : Below w.heap.size w w') : OwnGraph lo hi w' y := ⟨h.row.below hb, Nat.le_trans h.top hb.size⟩
theorem OwnGraph.win {lo hi lo' hi' : Nat} {w w' : World} {y : GraphR} (h : OwnGraph lo hi w y) (hw : Win lo' hi' w w') (hd : hi' ≤ lo ∨ hi ≤ lo') : OwnGraph lo hi w' y := ⟨h.row.win hw hd, Nat.le_trans h.top hw.size⟩
theorem OwnGraph.lo_le {lo hi lo' : Nat} {w : World} {y : GraphR} (h : OwnGraph lo hi w y) (hl : lo' ≤ lo) : OwnGraph lo' hi w y := ⟨h.row.lo_le hl, h.top⟩
theorem OwnGraph.good {lo hi : Nat} {w : World} {y : GraphR} (h : OwnGraph lo hi w y) (g : okGraph y) : goodGraph w y := ⟨g.1, h.row.rd lenEdge, g.2 w⟩
theorem goodGraph_ok {w : World} {y : GraphR} (g : goodGraph w y) : okGraph y := ⟨g.1, fun _ => g.2.2⟩
theorem okGraph_dat {y y' : GraphR} (g : okGraph y) (h : datGraph y' = datGraph y) : okGraph y' := by
  unfold datGraph at h
  simp only [Prod.mk.injEq] at h
  obtain ⟨h0, h1⟩ := h
  unfold okGraph
  rw [h0, h1]
  exact g
/-- How much of the budget it takes. -/
def bulkGraph (y : GraphR) : Nat := y.edgesN
set_option maxHeartbeats 800000 in
theorem szGraph_k (y : GraphR) (left : Int) (w : World) (gr : Rd encEdge 3 w y.edgesA y.edgesN y.edgesC y.edges) (h1 : 0 ≤ left) (h2 : left ≤ 1048576) :
    Calls Try.prog 25 #[.agg #[.int .i64 y.n, .slice y.edgesA y.edgesN y.edgesC], .int .i64 left] w fun e w' => e = .returned (.int .i64 (leftB left (bulkGraph y))) ∧ Below w.heap.size w w' := by
  obtain ⟨y0, yA, yN, yC, yL⟩ := y
  have hle := gr.le
  have hm := gr.max
  unfold maxLen at *
  unfold bulkGraph
  simp only at *
  by_cases c0 : left < ((yN : Nat) : Int)
  · have HL := Lib.hid (leftB_no (left := left) (n := yN) c0)
    have HL2 := Lib.hid (leftB_no (left := left) (n := yN) (by omega))
    go_enter Try.func25, Try.ntmps25
    go_wp2_with fail
    refine (szEdgeS_any _ _ _ _ _ (by omega) (by omega) (by omega)).mono ?_
    rintro e w1 ⟨rfl, hb⟩
    rw [HL2.out]
    go_wp2
    go_ret
    exact ⟨by rw [HL.out] <;> rfl, ((Below.refl w.heap.size w).alloc (Nat.le_refl _) (.cells #[.int .i64 y0, .slice yA yN yC] 45)).trans (hb.mono (by simp))⟩
  · have HL := Lib.hid (leftB_yes (left := left) (n := yN) c0)
    have HL2 := Lib.hid (leftB_yes (left := left) (n := yN) (by omega))
    go_enter Try.func25, Try.ntmps25
    go_wp2_with fail
    refine (szEdgeS_any _ _ _ _ _ (by omega) (by omega) (by omega)).mono ?_
    rintro e w1 ⟨rfl, hb⟩
    rw [HL2.out]
    go_wp2
    go_ret
    exact ⟨by rw [HL.out]; go_num, ((Below.refl w.heap.size w).alloc (Nat.le_refl _) (.cells #[.int .i64 y0, .slice yA yN yC] 45)).trans (hb.mono (by simp))⟩
set_option maxHeartbeats 1600000 in
theorem toGraph_k (y : GraphR) (w : World) (gr : Rd encEdge 3 w y.edgesA y.edgesN y.edgesC y.edges) (hn : bulkGraph y ≤ 1048576) :
    Calls Try.prog 27 #[.agg #[.int .i64 y.n, .slice y.edgesA y.edgesN y.edgesC]] w fun e w' => ∃ y' : GraphR, e = .returned (.agg #[.int .i64 y'.n, .slice y'.edgesA y'.edgesN y'.edgesC]) ∧ datGraph y' = datGraph y ∧ OwnGraph w.heap.size w'.heap.size w' y' ∧ bulkGraph y' = bulkGraph y ∧ Below w.heap.size w w' := by
  obtain ⟨y0, yA, yN, yC, yL⟩ := y
  have hn' : yN ≤ 1048576 := by unfold bulkGraph at hn; simp only at hn; omega
  clear hn
  obtain ⟨R, HR⟩ : ∃ R : Ending → World → Prop, Hid (∀ e w', (∃ y' : GraphR, e = .returned (.agg #[.int .i64 y'.n, .slice y'.edgesA y'.edgesN y'.edgesC]) ∧ datGraph y' = datGraph ⟨y0, yA, yN, yC, yL⟩ ∧ OwnGraph w.heap.size w'.heap.size w' y' ∧ bulkGraph y' = bulkGraph ⟨y0, yA, yN, yC, yL⟩ ∧ Below w.heap.size w w') = R e w') := ⟨_, fun _ _ => rfl⟩
  simp only [HR.out]
  simp only at *
  go_enter Try.func27, Try.ntmps27
  go_wp2_with fail
  have hb0 := (((Below.refl w.heap.size w).alloc (Nat.le_refl _) (.cells #[.int .i64 y0, .slice yA yN yC] 45)).alloc (by simp) (.cells #[.int .i64 0, .slice none 0 0] 52)).alloc (by simp; omega) (.cells #[.int .i64 y0, .slice none 0 0] 52)
  refine (toEdgeS_any _ _ _ yL _ (gr.below hb0 (Nat.le_refl _)) hn').mono ?_
  rintro e w1 ⟨q, rfl, ho, hb⟩
  obtain ⟨hc, hf⟩ := bcell hb
  go_wp2
  have hz : w.heap.size + 2 < w1.heap.size := by have := hb.size; simp at this; omega
  refine bodyPost_ret (v := .agg #[.int .i64 y0, .slice (some ⟨q, 0, none⟩) yN yN]) (by simp [results, Try.results27, go_sem, hc]) rfl ?_
  have hlo := ho.lo_le (lo' := w.heap.size + 3) (by simp)
  have hw := ((Win.set (lo := w.heap.size + 1) (hi := w.heap.size + 3) w1 (w.heap.size + 1 + 1) 1 (.slice (some ⟨q, 0, none⟩) yN yN) (by omega) (by omega)).trans (Win.set _ (w.heap.size + 1) 0 (.int .i64 y0) (by omega) (by omega))).trans (Win.set _ (w.heap.size + 1) 1 (.slice (some ⟨q, 0, none⟩) yN yN) (by omega) (by omega))
  rw [← HR.out]
  exact ⟨⟨y0, some ⟨q, 0, none⟩, yN, yN, yL⟩, rfl, rfl, ⟨((hlo.win hw (Or.inl (Nat.le_refl _))).lo_le (by omega)).grow (by simp only [size_set]; exact Nat.le_refl _) (Nat.le_refl _), Nat.le_refl _⟩, rfl, (hb0.trans (hb.mono (by simp; omega))).trans (hw.below (by omega) (by omega))⟩
set_option maxHeartbeats 1600000 in
theorem eqGraph_k (x y : GraphR) (D D' : Int × List EdgeR) (hD : datGraph x = D) (hD' : datGraph y = D') (w : World) (h : Rd encEdge 3 w x.edgesA x.edgesN x.edgesC x.edges) (h' : Rd encEdge 3 w y.edgesA y.edgesN y.edgesC y.edges) :
    Calls Try.prog 31 #[.agg #[.int .i64 x.n, .slice x.edgesA x.edgesN x.edgesC], .agg #[.int .i64 y.n, .slice y.edgesA y.edgesN y.edgesC]] w fun e w' => e = .returned (.bool (decide (D = D'))) ∧ Below w.heap.size w w' := by
  subst hD
  subst hD'
  have hb0 := ((Below.refl w.heap.size w).alloc (Nat.le_refl _) (.cells #[.int .i64 x.n, .slice x.edgesA x.edgesN x.edgesC] 52)).alloc (by simp) (.cells #[.int .i64 y.n, .slice y.edgesA y.edgesN y.edgesC] 52)
  have rx := h.below hb0 (Nat.le_refl _)
  have ry := h'.below hb0 (Nat.le_refl _)
  clear h h'
  obtain ⟨x0, xA, xN, xC, xL⟩ := x
  obtain ⟨y0, yA, yN, yC, yL⟩ := y
  unfold datGraph
  simp only at *
  by_cases c0 : x0 = y0
  · subst c0
    by_cases cL : xL = yL
    · have HE := Lib.hid (decide_eq_true cL)
      have HD : Hid (decide ((x0, xL) = (x0, yL)) = true) := Lib.hid (by simp [cL])
      clear cL
      go_enter Try.func31, Try.ntmps31
      go_wp2_with fail
      refine (eqEdgeS_any _ _ _ _ _ _ xL yL _ rx ry).mono ?_
      rintro e w1 ⟨rfl, hb⟩
      rw [HE.out]
      go_wp2
      go_ret
      exact ⟨by rw [HD.out] <;> rfl, hb0.trans (hb.mono (by simp; omega))⟩
    · have HE := Lib.hid (decide_eq_false cL)
      have HD : Hid (decide ((x0, xL) = (x0, yL)) = false) := Lib.hid (by simp [cL])
      clear cL
      go_enter Try.func31, Try.ntmps31
      go_wp2_with fail
      refine (eqEdgeS_any _ _ _ _ _ _ xL yL _ rx ry).mono ?_
      rintro e w1 ⟨rfl, hb⟩
      rw [HE.out]
      go_wp2
      go_ret
      exact ⟨by rw [HD.out] <;> rfl, hb0.trans (hb.mono (by simp; omega))⟩
  · have HD : Hid (decide ((x0, xL) = (y0, yL)) = false) := Lib.hid (by simp [c0])
    have hk : (x0 != y0) = true := by simp [c0]
    clear c0 rx ry
    go_enter Try.func31, Try.ntmps31
    go_wp2
    go_ret
    exact ⟨by rw [HD.out] <;> rfl, hb0⟩
set_option maxHeartbeats 400000 in
theorem markGraph_u (y : GraphR) (k : Int) (lo hi : Nat) (w : World) (h : OwnGraph lo hi w y) (hn : y.edgesN ≤ 1048576) (hk0 : 0 ≤ k) (hk1 : k ≤ 2305843009213693952) :
    Calls Try.prog 33 #[.agg #[.int .i64 y.n, .slice y.edgesA y.edgesN y.edgesC], .int .i64 k] w fun e w' => e = .returned (.int .i64 (k + 3 * y.edgesN)) ∧ OwnS encEdge 3 81 lo hi w' y.edgesA y.edgesN y.edgesC (mksEdge k y.edgesN) ∧ Win lo hi w w' := by
  have hb0 := (Below.refl w.heap.size w).alloc (Nat.le_refl _) (.cells #[.int .i64 y.n, .slice y.edgesA y.edgesN y.edgesC] 52)
  have he := h.row.below hb0
  obtain ⟨y0, yA, yN, yC, yL⟩ := y
  simp only at *
  go_enter Try.func33, Try.ntmps33
  go_wp2_with fail
  refine (markEdgeS_any _ _ _ _ _ _ _ _ he (by omega) hk0 hk1).mono ?_
  rintro e w1 ⟨rfl, ho, hw⟩
  go_wp2
  go_ret
  exact ⟨rfl, ho, (Win.of_below hb0).trans hw⟩
end Go.Proofs.Ythffmjeodoinlaa

/- GraphOk of the program and of the reference: what they compute. -/
namespace Go.Proofs.Ythffmjeodoinlaa
open Go.RowKit
def edgeAt (xs : List EdgeR) (j : Nat) : EdgeR := xs.getD j ⟨0, 0, 0⟩
theorem edgeAt_eq (xs : List EdgeR) (j : Nat) (h : j < xs.length) : edgeAt xs j = xs[j] := by simp [edgeAt, List.getD, h]
/-- The cells of a row of edges, in the walk's own spelling. -/
theorem Rd.edges {w : World} {a : Option Addr} {n cap : Nat} {xs : List EdgeR} (h : Rd encEdge 3 w a n cap xs) (hn : 0 < n) :
    ∃ b off, a = some ⟨b, off, none⟩ ∧ b < w.heap.size ∧ ∀ j, j < n → w.cell? ⟨b, off + j * 3, none⟩ = some (.int .i64 (edgeAt xs j).fr) ∧ w.cell? ⟨b, off + j * 3 + 1, none⟩ = some (.int .i64 (edgeAt xs j).to) ∧ w.cell? ⟨b, off + j * 3 + 2, none⟩ = some (.int .i64 (edgeAt xs j).wt) := by
  obtain ⟨b, off, ha, hl, hc⟩ := h.spot hn
  refine ⟨b, off, ha, hl, fun j hj => ?_⟩
  have hj' : j < xs.length := by rw [h.len]; exact hj
  rw [edgeAt_eq xs j hj']
  have h0 := hc j hj' 0 (.int .i64 xs[j].fr) rfl
  exact ⟨by simpa using h0, hc j hj' 1 (.int .i64 xs[j].to) rfl, hc j hj' 2 (.int .i64 xs[j].wt) rfl⟩
def edgeB (n : Int) (e : EdgeR) : Bool := decide (0 ≤ e.fr) && decide (e.fr < n) && decide (0 ≤ e.to) && decide (e.to < n) && decide (0 ≤ e.wt) && decide (e.wt ≤ 1000)
theorem edgeB_yes {n : Int} {e : EdgeR} (h : edgeB n e = true) : 0 ≤ e.fr ∧ e.fr < n ∧ 0 ≤ e.to ∧ e.to < n ∧ 0 ≤ e.wt ∧ e.wt ≤ 1000 := by
  simp [edgeB] at h; omega
theorem edgeB_no {n : Int} {e : EdgeR} (h : edgeB n e = false) : e.fr < 0 ∨ (0 ≤ e.fr ∧ n ≤ e.fr) ∨ (0 ≤ e.fr ∧ e.fr < n ∧ e.to < 0) ∨ (0 ≤ e.fr ∧ e.fr < n ∧ 0 ≤ e.to ∧ n ≤ e.to) ∨ (0 ≤ e.fr ∧ e.fr < n ∧ 0 ≤ e.to ∧ e.to < n ∧ e.wt < 0) ∨ (0 ≤ e.fr ∧ e.fr < n ∧ 0 ≤ e.to ∧ e.to < n ∧ 0 ≤ e.wt ∧ 1000 < e.wt) := by
  simp [edgeB] at h; omega
def graphB (n : Int) (xs : List EdgeR) : Bool := decide (0 ≤ n) && decide (n ≤ 150) && decide (xs.length ≤ 400) && xs.all (edgeB n)
theorem graphB_no {n : Int} {xs : List EdgeR} {k : Nat} (h : k < xs.length) (he : edgeB n (edgeAt xs k) = false) : graphB n xs = false := by
  rw [edgeAt_eq xs k h] at he
  have : xs.all (edgeB n) = false := by
    rw [List.all_eq_false]
    exact ⟨xs[k], List.getElem_mem h, by simp [he]⟩
  simp [graphB, this]
theorem all_step {xs : List EdgeR} {f : EdgeR → Bool} {k : Nat} (h : k < xs.length) (ha : (xs.take k).all f = true) (he : f (edgeAt xs k) = true) : (xs.take (k + 1)).all f = true := by
  rw [edgeAt_eq xs k h] at he
  rw [List.take_succ_eq_append_getElem h, List.all_append, ha]
  simp [he]
end Go.Proofs.Ythffmjeodoinlaa

/- GraphOk of the program and of the reference: what they compute. -/
namespace Go.Proofs.Ythffmjeodoinlaa
open Go.RowKit
set_option maxRecDepth 100000 in
set_option maxHeartbeats 3200000 in
theorem graphOk_impl (n : Int) (a : Option Addr) (m cap : Nat) (xs : List EdgeR) (w : World) (h : Rd encEdge 3 w a m cap xs) :
    Calls Try.prog 55 #[.agg #[.int .i64 n, .slice a m cap]] w fun e w' => e = .returned (.bool (graphB n xs)) ∧ Below w.heap.size w w' := by
  have hL := Lib.hid h.len
  have hm := h.max
  have hle := h.le
  unfold maxLen at hm
  have hb0 := (Below.refl w.heap.size w).alloc (Nat.le_refl _) (.cells #[.int .i64 n, .slice a m cap] 52)
  by_cases hr : (0 ≤ n ∧ n ≤ 150) ∧ m ≤ 400
  · obtain ⟨⟨h1, h2⟩, h3⟩ := hr
    have HG : Hid (xs.all (edgeB n) = true → graphB n xs = true) := Lib.hid fun hx => by simp [graphB, h1, h2, hL.out, h3, hx]
    go_enter Try.func55, Try.ntmps55
    go_wp2
    go_loopw [22] (fun i wr => ∃ k : Nat, k ≤ m ∧ i = .int .i64 k ∧ (xs.take k).all (edgeB n) = true ∧ Below (w.heap.size + 1) (w.alloc (.cells #[.int .i64 n, .slice a m cap] 52)) wr) (fun i _ => m - (intOf i).toNat)
    case atStart => exact ⟨0, Nat.zero_le _, rfl, rfl, Below.refl _ _⟩
    case round =>
      obtain ⟨k, hk, rfl, he, hb⟩ := hrel
      have HE := Lib.hid he
      clear he
      obtain ⟨hc, hf⟩ := bcell hb
      have hz : w.heap.size < wr.heap.size := by have := hb.size; simp at this; omega
      by_cases hlt : k < m
      · obtain ⟨b1, off1, rfl, hbl1, hc1⟩ := h.edges (by omega)
        have cb : ∀ o, wr.cell? ⟨b1, o, none⟩ = w.cell? ⟨b1, o, none⟩ := fun o => (hc _ _ (by omega)).trans (hb0.cell (p := ⟨b1, o, none⟩) hbl1)
        obtain ⟨k0, k1, k2⟩ := hc1 k hlt
        rw [← cb] at k0 k1 k2
        have hi1 : (k : Int) < (m : Int) := by omega
        have g0 : wr.cell? ⟨w.heap.size, 0, none⟩ = some (.int .i64 n) := by rw [hc _ _ (by omega)]; simp [go_sem]
        have hb2 := fun o => (hb0.trans (hb.mono (Nat.le_succ _))).alloc (hb0.trans (hb.mono (Nat.le_succ _))).size o
        have hb3 := fun o => hb.alloc (by omega) o
        clear hc1 h cb hc hf
        generalize hx : edgeAt xs k = x at *
        obtain ⟨fr, to, wt⟩ := x
        simp only at k0 k1 k2
        cases hE : edgeB n ⟨fr, to, wt⟩ with
        | true =>
          obtain ⟨q1, q2, q3, q4, q5, q6⟩ := edgeB_yes hE
          simp only at q1 q2 q3 q4 q5 q6
          have HX := Lib.hid hx
          have HH := Lib.hid hE
          clear hx hE
          go_wp2
          go_roundw
          case rel => exact ⟨k + 1, by omega, by go_num, all_step (by rw [hL.out]; exact hlt) HE.out (by rw [HX.out]; exact HH.out), hb3 _⟩
          case measure => simp [intOf]; omega
        | false =>
          have q := edgeB_no hE
          have HX := Lib.hid (graphB_no (n := n) (by rw [hL.out]; exact hlt) (by rw [hx]; exact hE))
          clear hx hE
          simp only at q
          rcases q with q | ⟨q1, q2⟩ | ⟨q1, q2, q3⟩ | ⟨q1, q2, q3, q4⟩ | ⟨q1, q2, q3, q4, q5⟩ | ⟨q1, q2, q3, q4, q5, q6⟩ <;> (go_wp2; go_ret; exact ⟨by rw [HX.out]; rfl, hb2 _⟩)
      · obtain rfl : k = m := by omega
        go_wp2
        go_ret
        have := HE.out
        rw [List.take_of_length_le (by rw [hL.out]; exact Nat.le_refl _)] at this
        exact ⟨by rw [HG.out this]; rfl, hb0.trans (hb.mono (Nat.le_succ _))⟩
  · have HF := Lib.hid (show graphB n xs = false from by
      cases hg : graphB n xs with
      | false => rfl
      | true => simp [graphB, hL.out] at hg; omega)
    by_cases a1 : 0 ≤ n
    · by_cases a2 : n ≤ 150
      · have a3 : 400 < m := by omega
        clear hr
        go_enter Try.func55, Try.ntmps55
        go_wp2
        go_ret
        exact ⟨by rw [HF.out]; rfl, hb0⟩
      · clear hr
        go_enter Try.func55, Try.ntmps55
        go_wp2
        go_ret
        exact ⟨by rw [HF.out]; rfl, hb0⟩
    · clear hr
      go_enter Try.func55, Try.ntmps55
      go_wp2
      go_ret
      exact ⟨by rw [HF.out]; rfl, hb0⟩
set_option maxRecDepth 100000 in
set_option maxHeartbeats 3200000 in
theorem graphOk_spec (n : Int) (a : Option Addr) (m cap : Nat) (xs : List EdgeR) (w : World) (h : Rd encEdge 3 w a m cap xs) :
    Calls Try.prog 50 #[.agg #[.int .i64 n, .slice a m cap]] w fun e w' => e = .returned (.bool (graphB n xs)) ∧ Below w.heap.size w w' := by
  have hL := Lib.hid h.len
  have hm := h.max
  have hle := h.le
  unfold maxLen at hm
  have hb0 := (Below.refl w.heap.size w).alloc (Nat.le_refl _) (.cells #[.int .i64 n, .slice a m cap] 52)
  go_enter Try.func50, Try.ntmps50
  go_wp2
  go_loopw [8] (fun i wr => ∃ k : Nat, k ≤ m ∧ i = .int .i64 k ∧ (xs.take k).all (edgeB n) = true ∧ Below (w.heap.size + 1) (w.alloc (.cells #[.int .i64 n, .slice a m cap] 52)) wr) (fun i _ => m - (intOf i).toNat)
  case atStart => exact ⟨0, Nat.zero_le _, rfl, rfl, Below.refl _ _⟩
  case round =>
    obtain ⟨k, hk, rfl, he, hb⟩ := hrel
    have HE := Lib.hid he
    clear he
    obtain ⟨hc, hf⟩ := bcell hb
    have hz : w.heap.size < wr.heap.size := by have := hb.size; simp at this; omega
    by_cases hlt : k < m
    · obtain ⟨b1, off1, rfl, hbl1, hc1⟩ := h.edges (by omega)
      have cb : ∀ o, wr.cell? ⟨b1, o, none⟩ = w.cell? ⟨b1, o, none⟩ := fun o => (hc _ _ (by omega)).trans (hb0.cell (p := ⟨b1, o, none⟩) hbl1)
      obtain ⟨k0, k1, k2⟩ := hc1 k hlt
      rw [← cb] at k0 k1 k2
      have hi1 : (k : Int) < (m : Int) := by omega
      have g0 : wr.cell? ⟨w.heap.size, 0, none⟩ = some (.int .i64 n) := by rw [hc _ _ (by omega)]; simp [go_sem]
      have hb2 := fun o => (hb0.trans (hb.mono (Nat.le_succ _))).alloc (hb0.trans (hb.mono (Nat.le_succ _))).size o
      have hb3 := fun o => hb.alloc (by omega) o
      clear hc1 h cb hc hf
      generalize hx : edgeAt xs k = x at *
      obtain ⟨fr, to, wt⟩ := x
      simp only at k0 k1 k2
      cases hE : edgeB n ⟨fr, to, wt⟩ with
      | true =>
        obtain ⟨q1, q2, q3, q4, q5, q6⟩ := edgeB_yes hE
        simp only at q1 q2 q3 q4 q5 q6
        have HX := Lib.hid hx
        have HH := Lib.hid hE
        clear hx hE
        go_wp2
        go_roundw
        case rel => exact ⟨k + 1, by omega, by go_num, all_step (by rw [hL.out]; exact hlt) HE.out (by rw [HX.out]; exact HH.out), hb3 _⟩
        case measure => simp [intOf]; omega
      | false =>
        have q := edgeB_no hE
        have HX := Lib.hid (graphB_no (n := n) (by rw [hL.out]; exact hlt) (by rw [hx]; exact hE))
        clear hx hE
        simp only at q
        rcases q with q | ⟨q1, q2⟩ | ⟨q1, q2, q3⟩ | ⟨q1, q2, q3, q4⟩ | ⟨q1, q2, q3, q4, q5⟩ | ⟨q1, q2, q3, q4, q5, q6⟩ <;> (go_wp2; go_ret; exact ⟨by rw [HX.out]; rfl, hb2 _⟩)
    · obtain rfl : k = m := by omega
      have g0 : wr.cell? ⟨w.heap.size, 0, none⟩ = some (.int .i64 n) := by rw [hc _ _ (by omega)]; simp [go_sem]
      have g1 : wr.cell? ⟨w.heap.size, 1, none⟩ = some (.slice a k cap) := by rw [hc _ _ (by omega)]; simp [go_sem]
      have hA := HE.out
      rw [List.take_of_length_le (by rw [hL.out]; exact Nat.le_refl _)] at hA
      have HG := Lib.hid (show graphB n xs = (decide (0 ≤ n) && decide (n ≤ 150) && decide (k ≤ 400)) from by simp [graphB, hL.out, hA])
      clear hA hc hf
      by_cases a1 : 0 ≤ n
      · by_cases a2 : n ≤ 150
        · by_cases a3 : k ≤ 400
          · have HD := Lib.hid (show (decide (0 ≤ n) && decide (n ≤ 150) && decide (k ≤ 400)) = true from by simp [a1, a2, a3])
            go_wp2
            go_ret
            exact ⟨ret_b (by rw [HG.out, HD.out]; simp; omega), hb0.trans (hb.mono (Nat.le_succ _))⟩
          · have HD := Lib.hid (show (decide (0 ≤ n) && decide (n ≤ 150) && decide (k ≤ 400)) = false from by simp [a1, a2, a3])
            go_wp2
            go_ret
            exact ⟨ret_b (by rw [HG.out, HD.out]; simp; omega), hb0.trans (hb.mono (Nat.le_succ _))⟩
        · have HD := Lib.hid (show (decide (0 ≤ n) && decide (n ≤ 150) && decide (k ≤ 400)) = false from by simp [a1, a2])
          go_wp2
          go_ret
          exact ⟨ret_b (by rw [HG.out, HD.out]), hb0.trans (hb.mono (Nat.le_succ _))⟩
      · have HD := Lib.hid (show (decide (0 ≤ n) && decide (n ≤ 150) && decide (k ≤ 400)) = false from by simp [a1])
        go_wp2
        go_ret
        exact ⟨ret_b (by rw [HG.out, HD.out]), hb0.trans (hb.mono (Nat.le_succ _))⟩
end Go.Proofs.Ythffmjeodoinlaa

/- GraphOk in the form that the law's walk uses. -/
namespace Go.Proofs.Ythffmjeodoinlaa
open Go.RowKit
theorem graphOk_spec_u (y : GraphR) (D : Int × List EdgeR) (hD : datGraph y = D) (w : World) (g : goodGraph w y) :
    Calls Try.prog 50 #[.agg #[.int .i64 y.n, .slice y.edgesA y.edgesN y.edgesC]] w fun e w' => e = .returned (.bool (graphB D.1 D.2)) ∧ Below w.heap.size w w' := by
  subst hD
  exact graphOk_spec _ _ _ _ _ _ g.2.1
theorem graphOk_impl_u (y : GraphR) (D : Int × List EdgeR) (hD : datGraph y = D) (w : World) (g : goodGraph w y) :
    Calls Try.prog 55 #[.agg #[.int .i64 y.n, .slice y.edgesA y.edgesN y.edgesC]] w fun e w' => e = .returned (.bool (graphB D.1 D.2)) ∧ Below w.heap.size w w' := by
  subst hD
  exact graphOk_impl _ _ _ _ _ _ g.2.1
end Go.Proofs.Ythffmjeodoinlaa

/- The helpers markIntS, heldIntS of the statements: what each call does. -/
namespace Go.Proofs.Ythffmjeodoinlaa
open Go.RowKit

set_option maxHeartbeats 400000 in
theorem markIntS_row (a : Option Addr) (n cap : Nat) (zs : List Int) (k : Int) (B : Nat) (w : World) (hz : zs.length = n) (h : w.ownsRow B 3 1 (.slice a n cap) n (zs.map (.int .i64))) (hn : n ≤ 4611686018427387904) (hk0 : 0 ≤ k) (hk1 : k ≤ 2305843009213693952) :
    Calls Try.prog 34 #[.slice a n cap, .int .i64 k] w fun e w' => e = .returned (.int .i64 (k + n)) ∧ w'.ownsRow B 3 1 (.slice a n cap) n ((mks asI k n).map (.int .i64)) ∧ w.grownBy w' (Value.slice a n cap).ownBlock := by
  have HZ := Lib.hid hz
  clear hz
  go_enter Try.func34, Try.ntmps34
  go_wp2
  go_loopw [1, 5] (fun q i wr => ∃ j : Nat, j ≤ n ∧ i = .int .i64 j ∧ q = .int .i64 (k + j) ∧ wr.ownsRow B 3 1 (.slice a n cap) n ((mks asI k j ++ zs.drop j).map (.int .i64)) ∧ w.grownBy wr (Value.slice a n cap).ownBlock) (fun _ i _ => n - (intOf i).toNat)
  case atStart => exact ⟨0, Nat.zero_le _, rfl, by go_num, h, grown_refl _ _⟩
  case round =>
    obtain ⟨j, hj, rfl, rfl, ho, hb⟩ := hrel
    by_cases hlt : j < n
    · obtain ⟨g, rfl⟩ := own_some ho (by omega)
      obtain ⟨d, hd⟩ := own_cell ho j hlt
      have hfr := ho.frozenAt j
      have hst := ho.stored j (.int .i64 (asI (k + (j : Int))))
      rw [← List.map_set, mks_set asI k zs j (by rw [HZ.out]; exact hlt)] at hst
      clear h
      go_wp2
      go_roundw
      case rel => exact ⟨j + 1, by omega, by go_num, by go_num, hst.1, grown_trans hb hst.2⟩
      case measure => simp [intOf]; omega
    · obtain rfl : j = n := by omega
      rw [← HZ.out, mks_all, HZ.out] at ho
      go_wp2
      go_ret
      exact ⟨rfl, ho, hb⟩

theorem markIntS_any (a : Option Addr) (n cap : Nat) (zs : List Int) (k : Int) (lo hi : Nat) (w : World) (h : OwnI .i64 3 lo hi w a n cap zs) (hk0 : 0 ≤ k) (hk1 : k ≤ 2305843009213693952) :
    Calls Try.prog 34 #[.slice a n cap, .int .i64 k] w fun e w' => e = .returned (.int .i64 (k + n)) ∧ OwnI .i64 3 lo hi w' a n cap (mks asI k n) ∧ Win lo hi w w' := by
  refine (markIntS_row a n cap zs k lo w h.len h.own h.small hk0 hk1).mono ?_
  rintro e w' ⟨rfl, ho, hg⟩
  exact ⟨rfl, ⟨mks_len _ _ _, ho, h.lt, Nat.le_trans h.top hg.size, h.small⟩, Win.of_grown hg (fun g hgg => ⟨(World.ownsRow.lt h.own g hgg).1, h.lt g hgg⟩)⟩

end Go.Proofs.Ythffmjeodoinlaa

/- InDegs and OutDegs: what they compute. -/
namespace Go.Proofs.Ythffmjeodoinlaa
open Go.RowKit
theorem graphB_yes {n : Int} {xs : List EdgeR} (h : graphB n xs = true) : 0 ≤ n ∧ n ≤ 150 ∧ xs.length ≤ 400 ∧ ∀ k, k < xs.length → edgeB n (edgeAt xs k) = true := by
  simp [graphB] at h
  obtain ⟨⟨⟨h1, h2⟩, h3⟩, h4⟩ := h
  exact ⟨h1, h2, h3, fun k hk => by rw [edgeAt_eq xs k hk]; exact h4 _ (List.getElem_mem hk)⟩
def degI (f : EdgeR → Int) (xs : List EdgeR) : List Nat := xs.map fun e => (f e).toNat
def degG (f : EdgeR → Int) (n : Int) (xs : List EdgeR) : List Int := if graphB n xs then tally n.toNat (degI f xs) else []
theorem degG_no {f : EdgeR → Int} {n : Int} {xs : List EdgeR} (h : graphB n xs = false) : degG f n xs = [] := by simp [degG, h]
theorem degG_yes {f : EdgeR → Int} {n : Nat} {xs : List EdgeR} (h : graphB n xs = true) : degG f n xs = tally n (degI f xs) := by simp [degG, h]
theorem degI_snoc (f : EdgeR → Int) (xs : List EdgeR) (k : Nat) (h : k < xs.length) : degI f (xs.take (k + 1)) = degI f (xs.take k) ++ [(f (edgeAt xs k)).toNat] := by
  unfold degI
  rw [List.take_succ_eq_append_getElem h, edgeAt_eq xs k h, List.map_append]; rfl
theorem tally_own {w : World} {B g N : Nat} {e : TypeId} {is : List Nat} {T : Nat} (hT : T < N) (h : w.ownsRow B e 1 (.slice (some ⟨g, 0, none⟩) N N) N ((tally N is).map (Value.int .i64))) :
    w.cell? ⟨g, T, none⟩ = some (.int .i64 ((tally N is).getD T 0)) := by
  rw [h.cellAt T (by omega), List.getElem?_map]
  have : T < (tally N is).length := by rw [tally_len]; exact hT
  simp [List.getD, this]
theorem tally_set (N : Nat) (is : List Nat) (T : Nat) : ((tally N is).map (Value.int .i64)).set T (.int .i64 ((tally N is).getD T 0 + 1)) = (tally N (is ++ [T])).map (Value.int .i64) := by
  rw [tally_snoc, ← List.map_set]; rfl
end Go.Proofs.Ythffmjeodoinlaa

/- EndsOk, IntervalOf, Span of the program and of the reference: what they compute. -/
namespace Go.Proofs.Ythffmjeodoinlaa
open Go.RowKit
def incB : Int → List Int → Option Int
  | l, [] => some l
  | l, e :: r => if e ≤ l then none else incB e r
theorem incB_snoc (xs : List Int) (e : Int) : ∀ l m, incB l xs = some m → incB l (xs ++ [e]) = if e ≤ m then none else some e := by
  induction xs with
  | nil => intro l m h; simp [incB] at h; subst h; simp [incB]
  | cons x r ih =>
    intro l m h
    simp only [incB, List.cons_append] at *
    split at h
    · cases h
    · rw [if_neg (by assumption)]; exact ih _ _ h
theorem incB_app_none (xs ys : List Int) : ∀ l, incB l xs = none → incB l (xs ++ ys) = none := by
  induction xs with
  | nil => intro l h; simp [incB] at h
  | cons x r ih =>
    intro l h
    simp only [incB, List.cons_append] at *
    split at h
    · rw [if_pos (by assumption)]
    · rw [if_neg (by assumption)]; exact ih _ h
theorem take_snocI (zs : List Int) (k : Nat) (h : k < zs.length) : zs.take (k + 1) = zs.take k ++ [zs.getD k 0] := by
  rw [List.take_succ_eq_append_getElem h]; simp [List.getD, h]
theorem incB_step (zs : List Int) (k : Nat) (h : k < zs.length) (m : Int) (hm : incB 0 (zs.take k) = some m) (hlt : ¬ zs.getD k 0 ≤ m) : incB 0 (zs.take (k + 1)) = some (zs.getD k 0) := by
  rw [take_snocI zs k h, incB_snoc _ _ _ _ hm, if_neg hlt]
theorem incB_stop (zs : List Int) (k : Nat) (h : k < zs.length) (m : Int) (hm : incB 0 (zs.take k) = some m) (hlt : zs.getD k 0 ≤ m) : incB 0 zs = none := by
  have h1 : incB 0 (zs.take (k + 1)) = none := by rw [take_snocI zs k h, incB_snoc _ _ _ _ hm, if_pos hlt]
  rw [← List.take_append_drop (k + 1) zs]
  exact incB_app_none _ _ _ h1
def endsB (n : Int) (zs : List Int) : Bool := decide (0 ≤ n) && decide (n ≤ 150) && (incB 0 zs == some n)
theorem endsB_stop (n : Int) {zs : List Int} (h : incB 0 zs = none) : endsB n zs = false := by unfold endsB; rw [h]; simp
theorem endsB_last (n : Int) {zs : List Int} {m : Int} (h : incB 0 zs = some m) : endsB n zs = (decide (0 ≤ n) && decide (n ≤ 150) && (m == n)) := by unfold endsB; rw [h]; simp

set_option maxHeartbeats 800000 in
theorem endsOk_impl (n : Int) (a : Option Addr) (m cap : Nat) (zs : List Int) (w : World) (h : Rd (encI .i64) 1 w a m cap zs) :
    Calls Try.prog 56 #[.int .i64 n, .slice a m cap] w fun e w' => e = .returned (.bool (endsB n zs)) ∧ Below w.heap.size w w' := by
  have hL := Lib.hid h.len
  have hm := h.max
  have hle := h.le
  unfold maxLen at hm
  by_cases hr : 0 ≤ n ∧ n ≤ 150
  · obtain ⟨h1, h2⟩ := hr
    go_enter Try.func56, Try.ntmps56
    go_wp2
    go_loopw [5, 16] (fun l i wr => ∃ (k : Nat) (x : Int), k ≤ m ∧ i = .int .i64 k ∧ l = .int .i64 x ∧ incB 0 (zs.take k) = some x ∧ Below w.heap.size w wr) (fun _ i _ => m - (intOf i).toNat)
    case atStart => exact ⟨0, 0, Nat.zero_le _, rfl, rfl, rfl, Below.refl _ _⟩
    case round =>
      obtain ⟨k, x, hk, rfl, rfl, he, hb⟩ := hrel
      have HE := Lib.hid he
      clear he
      by_cases hlt : k < m
      · obtain ⟨b1, off1, rfl, hbl1, hc1⟩ := h.ints (by omega)
        have hcell1 : wr.cell? ⟨b1, off1 + k, none⟩ = some (.int .i64 (zs[k]?.getD 0)) := (hb.cell (p := ⟨b1, off1 + k, none⟩) hbl1).trans (by simpa [List.getD] using hc1 k hlt)
        have hi1 : (k : Int) < (m : Int) := by omega
        clear hc1 h
        by_cases hx : zs[k]?.getD 0 ≤ x
        · go_wp2
          go_ret
          exact ⟨ret_b (endsB_stop n (incB_stop zs k (by rw [hL.out]; exact hlt) x HE.out (by simpa [List.getD] using hx))).symm, hb⟩
        · go_wp2
          go_roundw
          case rel => exact ⟨k + 1, _, by omega, by go_num, rfl, incB_step zs k (by rw [hL.out]; exact hlt) x HE.out (by simpa [List.getD] using hx), hb⟩
          case measure => simp [intOf]; omega
      · obtain rfl : k = m := by omega
        go_wp2
        go_ret
        have := HE.out
        rw [List.take_of_length_le (by rw [hL.out]; exact Nat.le_refl _)] at this
        exact ⟨ret_b (by rw [endsB_last n this]; simp [h1, h2]), hb⟩
  · have hf : endsB n zs = false := by
      unfold endsB
      by_cases a : 0 ≤ n
      · have b : ¬ n ≤ 150 := fun h => hr ⟨a, h⟩
        simp [b]
      · simp [a]
    have HF := Lib.hid hf
    clear hf
    by_cases a : 0 ≤ n
    · have b : 150 < n := by omega
      clear hr
      go_enter Try.func56, Try.ntmps56
      go_wp2
      go_ret
      exact ⟨by rw [HF.out]; rfl, Below.refl _ _⟩
    · clear hr
      go_enter Try.func56, Try.ntmps56
      go_wp2
      go_ret
      exact ⟨by rw [HF.out]; rfl, Below.refl _ _⟩

set_option maxHeartbeats 800000 in
theorem endsOk_spec (n : Int) (a : Option Addr) (m cap : Nat) (zs : List Int) (w : World) (h : Rd (encI .i64) 1 w a m cap zs) :
    Calls Try.prog 51 #[.int .i64 n, .slice a m cap] w fun e w' => e = .returned (.bool (endsB n zs)) ∧ Below w.heap.size w w' := by
  have hL := Lib.hid h.len
  have hm := h.max
  have hle := h.le
  unfold maxLen at hm
  go_enter Try.func51, Try.ntmps51
  go_wp2
  go_loopw [5, 10] (fun l i wr => ∃ (k : Nat) (x : Int), k ≤ m ∧ i = .int .i64 k ∧ l = .int .i64 x ∧ incB 0 (zs.take k) = some x ∧ Below w.heap.size w wr) (fun _ i _ => m - (intOf i).toNat)
  case atStart => exact ⟨0, 0, Nat.zero_le _, rfl, rfl, rfl, Below.refl _ _⟩
  case round =>
    obtain ⟨k, x, hk, rfl, rfl, he, hb⟩ := hrel
    have HE := Lib.hid he
    clear he
    by_cases hlt : k < m
    · obtain ⟨b1, off1, rfl, hbl1, hc1⟩ := h.ints (by omega)
      have hcell1 : wr.cell? ⟨b1, off1 + k, none⟩ = some (.int .i64 (zs[k]?.getD 0)) := (hb.cell (p := ⟨b1, off1 + k, none⟩) hbl1).trans (by simpa [List.getD] using hc1 k hlt)
      have hi1 : (k : Int) < (m : Int) := by omega
      clear hc1 h
      by_cases hx : zs[k]?.getD 0 ≤ x
      · go_wp2
        go_ret
        exact ⟨ret_b (endsB_stop n (incB_stop zs k (by rw [hL.out]; exact hlt) x HE.out (by simpa [List.getD] using hx))).symm, hb⟩
      · go_wp2
        go_roundw
        case rel => exact ⟨k + 1, _, by omega, by go_num, rfl, incB_step zs k (by rw [hL.out]; exact hlt) x HE.out (by simpa [List.getD] using hx), hb⟩
        case measure => simp [intOf]; omega
    · obtain rfl : k = m := by omega
      have := HE.out
      rw [List.take_of_length_le (by rw [hL.out]; exact Nat.le_refl _)] at this
      have HX := Lib.hid (endsB_last n this)
      clear this
      by_cases a : 0 ≤ n
      · by_cases b : n ≤ 150
        · go_wp2
          go_ret
          exact ⟨ret_b (by rw [HX.out]; (simp; intros; omega)), hb⟩
        · go_wp2
          go_ret
          exact ⟨ret_b (by rw [HX.out]; (simp; intros; omega)), hb⟩
      · go_wp2
        go_ret
        exact ⟨ret_b (by rw [HX.out]; (simp; intros; omega)), hb⟩

/-- The interval of a vertex. -/
def lastI (zs : List Int) : Int := zs.getD (zs.length - 1) 0
def cntI (zs : List Int) (v : Int) : Nat := (zs.filter fun e => decide (e ≤ v)).length
def ivI (zs : List Int) (v : Int) : Int := if zs.length = 0 ∨ v < 0 ∨ lastI zs ≤ v then -1 else (cntI zs v : Int)
theorem cntI_le (zs : List Int) (v : Int) (k : Nat) : cntI (zs.take k) v ≤ k := by
  unfold cntI; exact Nat.le_trans (List.length_filter_le _ _) (List.length_take_le _ _)
theorem cntI_hit (zs : List Int) (v : Int) (k : Nat) (h : k < zs.length) (hx : zs.getD k 0 ≤ v) : cntI (zs.take (k + 1)) v = cntI (zs.take k) v + 1 := by
  unfold cntI; rw [take_snocI zs k h, List.filter_append]; simp only [List.filter_cons, List.filter_nil]; rw [if_pos (by simpa using hx)]; simp
theorem cntI_miss (zs : List Int) (v : Int) (k : Nat) (h : k < zs.length) (hx : ¬ zs.getD k 0 ≤ v) : cntI (zs.take (k + 1)) v = cntI (zs.take k) v := by
  unfold cntI; rw [take_snocI zs k h, List.filter_append]; simp only [List.filter_cons, List.filter_nil]; rw [if_neg (by simpa using hx)]; simp
theorem ivI_yes (zs : List Int) (v : Int) (h0 : zs.length ≠ 0) (h1 : ¬ v < 0) (h2 : ¬ lastI zs ≤ v) : ivI zs v = (cntI zs v : Int) := by
  unfold ivI; rw [if_neg (by omega)]
theorem ivI_no (zs : List Int) (v : Int) (h : zs.length = 0 ∨ v < 0 ∨ lastI zs ≤ v) : ivI zs v = -1 := by
  unfold ivI; rw [if_pos h]

set_option maxHeartbeats 800000 in
theorem intervalOf_impl (v : Int) (a : Option Addr) (m cap : Nat) (zs : List Int) (w : World) (h : Rd (encI .i64) 1 w a m cap zs) :
    Calls Try.prog 57 #[.slice a m cap, .int .i64 v] w fun e w' => e = .returned (.int .i64 (ivI zs v)) ∧ Below w.heap.size w w' := by
  have hL := Lib.hid h.len
  have hm := h.max
  have hle := h.le
  unfold maxLen at hm
  by_cases h0 : m = 0
  · have HF := Lib.hid (ivI_no zs v (Or.inl (by rw [hL.out, h0])))
    have h0' : ((m : Int) == 0) = true := by simp; omega
    clear h0
    by_cases h1 : v < 0
    · go_enter Try.func57, Try.ntmps57
      go_wp2
      go_ret
      exact ⟨by rw [HF.out]; rfl, Below.refl _ _⟩
    · go_enter Try.func57, Try.ntmps57
      go_wp2
      go_ret
      exact ⟨by rw [HF.out]; rfl, Below.refl _ _⟩
  · have h0' : ((m : Int) == 0) = false := by simp; omega
    by_cases h1 : v < 0
    · have HF := Lib.hid (ivI_no zs v (Or.inr (Or.inl h1)))
      go_enter Try.func57, Try.ntmps57
      go_wp2
      go_ret
      exact ⟨by rw [HF.out]; rfl, Below.refl _ _⟩
    · obtain ⟨b1, off1, rfl, hbl1, hc1⟩ := h.ints (by omega)
      have hlast : w.cell? ⟨b1, off1 + (m - 1), none⟩ = some (.int .i64 (lastI zs)) := by
        have := hc1 (m - 1) (by omega)
        unfold lastI; rw [hL.out]; exact this
      have HC := Lib.hid hc1
      clear hc1 h
      have hmi : (m : Int) - 1 < (m : Int) := by omega
      have hm0 : 0 ≤ (m : Int) - 1 := by omega
      by_cases h2 : lastI zs ≤ v
      · have HF := Lib.hid (ivI_no zs v (Or.inr (Or.inr h2)))
        go_enter Try.func57, Try.ntmps57
        go_wp2
        go_ret
        exact ⟨by rw [HF.out]; rfl, Below.refl _ _⟩
      · have HF := Lib.hid (ivI_yes zs v (by rw [hL.out]; exact h0) h1 h2)
        go_enter Try.func57, Try.ntmps57
        go_wp2
        go_loopw [5, 27] (fun c i wr => ∃ (k : Nat), k ≤ m ∧ i = .int .i64 k ∧ c = .int .i64 (cntI (zs.take k) v) ∧ Below w.heap.size w wr) (fun _ i _ => m - (intOf i).toNat)
        case atStart => exact ⟨0, Nat.zero_le _, rfl, rfl, Below.refl _ _⟩
        case round =>
          obtain ⟨k, hk, rfl, rfl, hb⟩ := hrel
          have hcl := cntI_le zs v k
          by_cases hlt : k < m
          · have hcell1 : wr.cell? ⟨b1, off1 + k, none⟩ = some (.int .i64 (zs[k]?.getD 0)) := (hb.cell (p := ⟨b1, off1 + k, none⟩) hbl1).trans (by simpa [List.getD] using HC.out k hlt)
            have hi1 : (k : Int) < (m : Int) := by omega
            by_cases hx : zs[k]?.getD 0 ≤ v
            · have HN := Lib.hid (cntI_hit zs v k (by rw [hL.out]; exact hlt) (by simpa [List.getD] using hx))
              go_wp2
              go_roundw
              case rel => exact ⟨k + 1, by omega, by go_num, by rw [HN.out]; go_num, hb⟩
              case measure => simp [intOf]; omega
            · have HN := Lib.hid (cntI_miss zs v k (by rw [hL.out]; exact hlt) (by simpa [List.getD] using hx))
              go_wp2
              go_roundw
              case rel => exact ⟨k + 1, by omega, by go_num, by rw [HN.out], hb⟩
              case measure => simp [intOf]; omega
          · obtain rfl : k = m := by omega
            go_wp2
            go_ret
            exact ⟨ret_i (by rw [HF.out, List.take_of_length_le (by rw [hL.out]; exact Nat.le_refl _)]), hb⟩

set_option maxHeartbeats 800000 in
theorem intervalOf_spec (v : Int) (a : Option Addr) (m cap : Nat) (zs : List Int) (w : World) (h : Rd (encI .i64) 1 w a m cap zs) :
    Calls Try.prog 52 #[.slice a m cap, .int .i64 v] w fun e w' => e = .returned (.int .i64 (ivI zs v)) ∧ Below w.heap.size w w' := by
  have hL := Lib.hid h.len
  have hm := h.max
  have hle := h.le
  unfold maxLen at hm
  by_cases h0 : m = 0
  · have HF := Lib.hid (ivI_no zs v (Or.inl (by rw [hL.out, h0])))
    have h0' : ((m : Int) == 0) = true := by simp; omega
    clear h0
    by_cases h1 : v < 0
    · go_enter Try.func52, Try.ntmps52
      go_wp2
      go_ret
      exact ⟨by rw [HF.out]; rfl, Below.refl _ _⟩
    · go_enter Try.func52, Try.ntmps52
      go_wp2
      go_ret
      exact ⟨by rw [HF.out]; rfl, Below.refl _ _⟩
  · have h0' : ((m : Int) == 0) = false := by simp; omega
    by_cases h1 : v < 0
    · have HF := Lib.hid (ivI_no zs v (Or.inr (Or.inl h1)))
      go_enter Try.func52, Try.ntmps52
      go_wp2
      go_ret
      exact ⟨by rw [HF.out]; rfl, Below.refl _ _⟩
    · obtain ⟨b1, off1, rfl, hbl1, hc1⟩ := h.ints (by omega)
      have hlast : w.cell? ⟨b1, off1 + (m - 1), none⟩ = some (.int .i64 (lastI zs)) := by
        have := hc1 (m - 1) (by omega)
        unfold lastI; rw [hL.out]; exact this
      have HC := Lib.hid hc1
      clear hc1 h
      have hmi : (m : Int) - 1 < (m : Int) := by omega
      have hm0 : 0 ≤ (m : Int) - 1 := by omega
      by_cases h2 : lastI zs ≤ v
      · have HF := Lib.hid (ivI_no zs v (Or.inr (Or.inr h2)))
        go_enter Try.func52, Try.ntmps52
        go_wp2
        go_ret
        exact ⟨by rw [HF.out]; rfl, Below.refl _ _⟩
      · have HF := Lib.hid (ivI_yes zs v (by rw [hL.out]; exact h0) h1 h2)
        go_enter Try.func52, Try.ntmps52
        go_wp2
        go_loopw [5, 25] (fun c i wr => ∃ (k : Nat), k ≤ m ∧ i = .int .i64 k ∧ c = .int .i64 (cntI (zs.take k) v) ∧ Below w.heap.size w wr) (fun _ i _ => m - (intOf i).toNat)
        case atStart => exact ⟨0, Nat.zero_le _, rfl, rfl, Below.refl _ _⟩
        case round =>
          obtain ⟨k, hk, rfl, rfl, hb⟩ := hrel
          have hcl := cntI_le zs v k
          by_cases hlt : k < m
          · have hcell1 : wr.cell? ⟨b1, off1 + k, none⟩ = some (.int .i64 (zs[k]?.getD 0)) := (hb.cell (p := ⟨b1, off1 + k, none⟩) hbl1).trans (by simpa [List.getD] using HC.out k hlt)
            have hi1 : (k : Int) < (m : Int) := by omega
            by_cases hx : zs[k]?.getD 0 ≤ v
            · have HN := Lib.hid (cntI_hit zs v k (by rw [hL.out]; exact hlt) (by simpa [List.getD] using hx))
              go_wp2
              go_roundw
              case rel => exact ⟨k + 1, by omega, by go_num, by rw [HN.out]; go_num, hb⟩
              case measure => simp [intOf]; omega
            · have HN := Lib.hid (cntI_miss zs v k (by rw [hL.out]; exact hlt) (by simpa [List.getD] using hx))
              go_wp2
              go_roundw
              case rel => exact ⟨k + 1, by omega, by go_num, by rw [HN.out], hb⟩
              case measure => simp [intOf]; omega
          · obtain rfl : k = m := by omega
            go_wp2
            go_ret
            exact ⟨ret_i (by rw [HF.out, List.take_of_length_le (by rw [hL.out]; exact Nat.le_refl _)]), hb⟩


def spanI (zs : List Int) (p : Int) : Int × Int := if p < 0 ∨ (zs.length : Int) ≤ p then (0, 0) else if p = 0 then (0, zs.getD 0 0) else (zs.getD (p - 1).toNat 0, zs.getD p.toNat 0)

set_option maxHeartbeats 400000 in
theorem span_impl (p : Int) (a : Option Addr) (m cap : Nat) (zs : List Int) (w : World) (h : Rd (encI .i64) 1 w a m cap zs) :
    Calls Try.prog 58 #[.slice a m cap, .int .i64 p] w fun e w' => e = .returned (.tuple #[.int .i64 (spanI zs p).1, .int .i64 (spanI zs p).2]) ∧ Below w.heap.size w w' := by
  have hL := Lib.hid h.len
  have hm := h.max
  have hle := h.le
  unfold maxLen at hm
  by_cases h0 : 0 ≤ p ∧ p < m
  · obtain ⟨h1, h2⟩ := h0
    obtain ⟨b1, off1, rfl, hbl1, hc1⟩ := h.ints (by omega)
    obtain ⟨q, rfl⟩ := Int.eq_ofNat_of_zero_le h1
    by_cases hq : q = 0
    · subst hq
      have hlast : w.cell? ⟨b1, off1, none⟩ = some (.int .i64 (zs[0]?.getD 0)) := by simpa [List.getD] using hc1 0 (by omega)
      have HF : Hid (spanI zs ((0 : Nat) : Int) = (0, zs[0]?.getD 0)) := by
        show spanI zs ((0 : Nat) : Int) = _
        unfold spanI; rw [hL.out, if_neg (by omega), if_pos (by simp)]
        simp [List.getD]
      clear hc1 h
      have hm0 : 0 < m := by omega
      go_enter Try.func58, Try.ntmps58
      have hm1 : (0 : Int) < (m : Int) := by omega
      go_wp2
      go_quiet (fail)
      go_wp2
      go_ret2
      exact ⟨by rw [HF.out]; rfl, below_drewN (Below.refl _ _) _⟩
    · have hl1 : w.cell? ⟨b1, off1 + q, none⟩ = some (.int .i64 (zs[q]?.getD 0)) := by simpa [List.getD] using hc1 q (by omega)
      have hl2 : w.cell? ⟨b1, off1 + (q - 1), none⟩ = some (.int .i64 (zs[q - 1]?.getD 0)) := by simpa [List.getD] using hc1 (q - 1) (by omega)
      have HF : Hid (spanI zs (q : Int) = (zs[q - 1]?.getD 0, zs[q]?.getD 0)) := by
        show spanI zs (q : Int) = _
        unfold spanI; rw [hL.out, if_neg (by omega), if_neg (by omega)]
        simp [List.getD, show ((q : Int) - 1).toNat = q - 1 from by omega]
      have hq0 : ((q : Int) == 0) = false := by simp; omega
      have hq1 : 0 ≤ (q : Int) - 1 := by omega
      have hq2 : (q : Int) - 1 < (m : Int) := by omega
      clear hc1 h hq
      go_enter Try.func58, Try.ntmps58
      go_wp2
      first
      | (go_ret2; exact ⟨by rw [HF.out]; rfl, Below.refl _ _⟩)
      | (go_quiet (fail); go_wp2; go_ret2; exact ⟨by rw [HF.out]; rfl, below_drewN (Below.refl _ _) _⟩)
  · have HF : Hid (spanI zs p = (0, 0)) := by
      show spanI zs p = _
      unfold spanI; rw [hL.out, if_pos (by omega)]
    by_cases h1 : 0 ≤ p
    · have h2 : (m : Int) ≤ p := by omega
      clear h0
      go_enter Try.func58, Try.ntmps58
      go_wp2
      go_ret2
      exact ⟨by rw [HF.out]; rfl, Below.refl _ _⟩
    · clear h0
      go_enter Try.func58, Try.ntmps58
      go_wp2
      go_ret2
      exact ⟨by rw [HF.out]; rfl, Below.refl _ _⟩

set_option maxHeartbeats 400000 in
theorem span_spec (p : Int) (a : Option Addr) (m cap : Nat) (zs : List Int) (w : World) (h : Rd (encI .i64) 1 w a m cap zs) :
    Calls Try.prog 53 #[.slice a m cap, .int .i64 p] w fun e w' => e = .returned (.tuple #[.int .i64 (spanI zs p).1, .int .i64 (spanI zs p).2]) ∧ Below w.heap.size w w' := by
  have hL := Lib.hid h.len
  have hm := h.max
  have hle := h.le
  unfold maxLen at hm
  by_cases h0 : 0 ≤ p ∧ p < m
  · obtain ⟨h1, h2⟩ := h0
    obtain ⟨b1, off1, rfl, hbl1, hc1⟩ := h.ints (by omega)
    obtain ⟨q, rfl⟩ := Int.eq_ofNat_of_zero_le h1
    by_cases hq : q = 0
    · subst hq
      have hlast : w.cell? ⟨b1, off1, none⟩ = some (.int .i64 (zs[0]?.getD 0)) := by simpa [List.getD] using hc1 0 (by omega)
      have HF : Hid (spanI zs ((0 : Nat) : Int) = (0, zs[0]?.getD 0)) := by
        show spanI zs ((0 : Nat) : Int) = _
        unfold spanI; rw [hL.out, if_neg (by omega), if_pos (by simp)]
        simp [List.getD]
      clear hc1 h
      have hm0 : 0 < m := by omega
      go_enter Try.func53, Try.ntmps53
      have hm1 : (0 : Int) < (m : Int) := by omega
      go_wp2
      go_quiet (fail)
      go_wp2
      go_ret2
      exact ⟨by rw [HF.out]; rfl, below_drewN (Below.refl _ _) _⟩
    · have hl1 : w.cell? ⟨b1, off1 + q, none⟩ = some (.int .i64 (zs[q]?.getD 0)) := by simpa [List.getD] using hc1 q (by omega)
      have hl2 : w.cell? ⟨b1, off1 + (q - 1), none⟩ = some (.int .i64 (zs[q - 1]?.getD 0)) := by simpa [List.getD] using hc1 (q - 1) (by omega)
      have HF : Hid (spanI zs (q : Int) = (zs[q - 1]?.getD 0, zs[q]?.getD 0)) := by
        show spanI zs (q : Int) = _
        unfold spanI; rw [hL.out, if_neg (by omega), if_neg (by omega)]
        simp [List.getD, show ((q : Int) - 1).toNat = q - 1 from by omega]
      have hq0 : ((q : Int) == 0) = false := by simp; omega
      have hq1 : 0 ≤ (q : Int) - 1 := by omega
      have hq2 : (q : Int) - 1 < (m : Int) := by omega
      clear hc1 h hq
      go_enter Try.func53, Try.ntmps53
      go_wp2
      first
      | (go_ret2; exact ⟨by rw [HF.out]; rfl, Below.refl _ _⟩)
      | (go_quiet (fail); go_wp2; go_ret2; exact ⟨by rw [HF.out]; rfl, below_drewN (Below.refl _ _) _⟩)
  · have HF : Hid (spanI zs p = (0, 0)) := by
      show spanI zs p = _
      unfold spanI; rw [hL.out, if_pos (by omega)]
    by_cases h1 : 0 ≤ p
    · have h2 : (m : Int) ≤ p := by omega
      clear h0
      go_enter Try.func53, Try.ntmps53
      go_wp2
      go_ret2
      exact ⟨by rw [HF.out]; rfl, Below.refl _ _⟩
    · clear h0
      go_enter Try.func53, Try.ntmps53
      go_wp2
      go_ret2
      exact ⟨by rw [HF.out]; rfl, Below.refl _ _⟩
end Go.Proofs.Ythffmjeodoinlaa

/- Holds of the program and of the reference: what they compute. -/
namespace Go.Proofs.Ythffmjeodoinlaa
open Go.RowKit
theorem incB_last : ∀ (zs : List Int) (l m : Int), incB l zs = some m → zs ≠ [] → lastI zs = m := by
  intro zs
  induction zs with
  | nil => intro l m _ h; exact absurd rfl h
  | cons z r ih =>
    intro l m h _
    simp only [incB] at h
    split at h
    · cases h
    · cases r with
      | nil => simp only [incB, Option.some.injEq] at h; subst h; rfl
      | cons y t =>
        have := ih z m h (by simp)
        unfold lastI at *
        simp only [List.length_cons, Nat.add_sub_cancel] at *
        rw [List.getD_cons_succ]
        exact this
theorem cnt_lt : ∀ (zs : List Int) (v : Int), zs ≠ [] → v < lastI zs → cntI zs v < zs.length := by
  intro zs v h hv
  unfold cntI
  rw [List.length_filter_lt_length_iff_exists]
  have hl : zs.length - 1 < zs.length := by have := List.length_pos_iff.2 h; omega
  refine ⟨zs[zs.length - 1], List.getElem_mem hl, ?_⟩
  unfold lastI at hv
  rw [List.getD_eq_getElem?_getD, List.getElem?_eq_getElem hl] at hv
  simp at hv ⊢
  omega
theorem endsB_yes {n : Int} {zs : List Int} (h : endsB n zs = true) : 0 ≤ n ∧ n ≤ 150 ∧ incB 0 zs = some n := by
  simp [endsB] at h
  exact ⟨h.1.1, h.1.2, h.2⟩
theorem iv_in {n v : Int} {zs : List Int} (h : endsB n zs = true) (h0 : 0 ≤ v) (h1 : v < n) : ∃ q : Nat, ivI zs v = (q : Int) ∧ q < zs.length := by
  obtain ⟨_, _, h4⟩ := endsB_yes h
  have hne : zs ≠ [] := by intro e; subst e; simp [incB] at h4; omega
  have hl := incB_last zs 0 n h4 hne
  refine ⟨cntI zs v, ivI_yes zs v (by have := List.length_pos_iff.2 hne; omega) (by omega) (by omega), cnt_lt zs v hne (by omega)⟩
def holdI (es : List Int) (xs : List EdgeR) : List Nat := xs.map fun e => (ivI es e.to).toNat
theorem holdI_snoc (es : List Int) (xs : List EdgeR) (k : Nat) (h : k < xs.length) : holdI es (xs.take (k + 1)) = holdI es (xs.take k) ++ [(ivI es (edgeAt xs k).to).toNat] := by
  unfold holdI
  rw [List.take_succ_eq_append_getElem h, edgeAt_eq xs k h, List.map_append]; rfl
def holdG (n : Int) (xs : List EdgeR) (es : List Int) : List Int := if graphB n xs = true ∧ endsB n es = true then tally es.length (holdI es xs) else []
theorem holdG_no {n : Int} {xs : List EdgeR} {es : List Int} (h : ¬ (graphB n xs = true ∧ endsB n es = true)) : holdG n xs es = [] := if_neg h
theorem holdG_yes {n : Int} {xs : List EdgeR} {es : List Int} (h : graphB n xs = true) (h2 : endsB n es = true) : holdG n xs es = tally es.length (holdI es xs) := if_pos ⟨h, h2⟩
end Go.Proofs.Ythffmjeodoinlaa

/- The struct SEdge as data: its cells, and what the form's reading of it gives. -/
namespace Go.Proofs.Ythffmjeodoinlaa
open Go.ChangeShapes Go.WideShapes Go.ChangeAt Go.RowKit Go.Deep
structure SEdgeR where
  fr : Int
  to : Int
  wt : Int
  ix : Int
  val : Int
deriving DecidableEq
def encSEdge (r : SEdgeR) : List Value := [.int .i64 r.fr, .int .i64 r.to, .int .i64 r.wt, .int .i64 r.ix, .int .i64 r.val]
def goodSEdge (_w : World) (r : SEdgeR) : Prop := (In64 r.fr) ∧ (In64 r.to) ∧ (In64 r.wt) ∧ (In64 r.ix) ∧ (In64 r.val)
theorem goodSEdge_below {w w' : World} {r : SEdgeR} (h : goodSEdge w r) {B : Nat} (_hb : Below B w w') (_hB : w.heap.size ≤ B) : goodSEdge w' r := ⟨h.1, h.2.1, h.2.2.1, h.2.2.2.1, h.2.2.2.2⟩
end Go.Proofs.Ythffmjeodoinlaa

/- The struct Shard as data: its cells, and what the form's reading of it gives. -/
namespace Go.Proofs.Ythffmjeodoinlaa
open Go.ChangeShapes Go.WideShapes Go.ChangeAt Go.RowKit Go.Deep
structure ShardR where
  lo : Int
  hi : Int
  edgesA : Option Addr
  edgesN : Nat
  edgesC : Nat
  edges : List SEdgeR
def encShard (r : ShardR) : List Value := [.int .i64 r.lo, .int .i64 r.hi, .slice r.edgesA r.edgesN r.edgesC]
def goodShard (w : World) (r : ShardR) : Prop := (In64 r.lo) ∧ (In64 r.hi) ∧ (Rd encSEdge 5 w r.edgesA r.edgesN r.edgesC r.edges ∧ ∀ y ∈ r.edges, (goodSEdge w) y)
theorem goodShard_below {w w' : World} {r : ShardR} (h : goodShard w r) {B : Nat} (hb : Below B w w') (hB : w.heap.size ≤ B) : goodShard w' r := ⟨h.1, h.2.1, ⟨h.2.2.1.below hb hB, fun y hy => goodSEdge_below (h.2.2.2 y hy) hb hB⟩⟩
end Go.Proofs.Ythffmjeodoinlaa

/- Rows of the struct SEdge: its cells, toX, eqX, toXS, eqXS, szXS of the statements. -/
namespace Go.Proofs.Ythffmjeodoinlaa
open Go.RowKit
def atSEdge (xs : List SEdgeR) (j : Nat) : SEdgeR := xs.getD j ⟨0, 0, 0, 0, 0⟩
theorem atSEdge_eq (xs : List SEdgeR) (j : Nat) (h : j < xs.length) : atSEdge xs j = xs[j] := by simp [atSEdge, List.getD, h]
theorem lenSEdge : ∀ x : SEdgeR, (encSEdge x).length = 5 := fun _ => rfl
/-- The cells of a row, in the walk's own spelling. -/
theorem Rd.rowSEdge {w : World} {a : Option Addr} {n cap : Nat} {xs : List SEdgeR} (h : Rd encSEdge 5 w a n cap xs) (hn : 0 < n) :
    ∃ b off, a = some ⟨b, off, none⟩ ∧ b < w.heap.size ∧ ∀ j, j < n → w.cell? ⟨b, off + j * 5, none⟩ = some (.int .i64 (atSEdge xs j).fr) ∧ w.cell? ⟨b, off + j * 5 + 1, none⟩ = some (.int .i64 (atSEdge xs j).to) ∧ w.cell? ⟨b, off + j * 5 + 2, none⟩ = some (.int .i64 (atSEdge xs j).wt) ∧ w.cell? ⟨b, off + j * 5 + 3, none⟩ = some (.int .i64 (atSEdge xs j).ix) ∧ w.cell? ⟨b, off + j * 5 + 4, none⟩ = some (.int .i64 (atSEdge xs j).val) := by
  obtain ⟨b, off, ha, hl, hc⟩ := h.spot hn
  refine ⟨b, off, ha, hl, fun j hj => ?_⟩
  have hj' : j < xs.length := by rw [h.len]; exact hj
  rw [atSEdge_eq xs j hj']
  exact ⟨hc j hj' 0 (.int .i64 xs[j].fr) rfl, hc j hj' 1 (.int .i64 xs[j].to) rfl, hc j hj' 2 (.int .i64 xs[j].wt) rfl, hc j hj' 3 (.int .i64 xs[j].ix) rfl, hc j hj' 4 (.int .i64 xs[j].val) rfl⟩
set_option maxHeartbeats 1600000 in
theorem eqSEdge_any (r s : SEdgeR) (w : World) : Calls Try.prog 94 #[.agg #[.int .i64 r.fr, .int .i64 r.to, .int .i64 r.wt, .int .i64 r.ix, .int .i64 r.val], .agg #[.int .i64 s.fr, .int .i64 s.to, .int .i64 s.wt, .int .i64 s.ix, .int .i64 s.val]] w fun e w' => e = .returned (.bool (decide (r = s))) ∧ Below w.heap.size w w' := by
  have hb0 := ((Below.refl w.heap.size w).alloc (Nat.le_refl _) (.cells #[.int .i64 r.fr, .int .i64 r.to, .int .i64 r.wt, .int .i64 r.ix, .int .i64 r.val] 88)).alloc (by simp) (.cells #[.int .i64 s.fr, .int .i64 s.to, .int .i64 s.wt, .int .i64 s.ix, .int .i64 s.val] 88)
  obtain ⟨a0, a1, a2, a3, a4⟩ := r
  obtain ⟨b0, b1, b2, b3, b4⟩ := s
  simp only at *
  by_cases h : (⟨a0, a1, a2, a3, a4⟩ : SEdgeR) = ⟨b0, b1, b2, b3, b4⟩
  · cases h
    go_enter Try.func94, Try.ntmps94
    go_wp2
    go_ret
    exact ⟨rfl, hb0⟩
  · have hh : ((a0 != b0) = true) ∨ (a0 = b0 ∧ (a1 != b1) = true) ∨ (a0 = b0 ∧ a1 = b1 ∧ (a2 != b2) = true) ∨ (a0 = b0 ∧ a1 = b1 ∧ a2 = b2 ∧ (a3 != b3) = true) ∨ (a0 = b0 ∧ a1 = b1 ∧ a2 = b2 ∧ a3 = b3 ∧ (a4 != b4) = true) := by
      simp only [SEdgeR.mk.injEq] at h
      simp only [bne_iff_ne, ne_eq]
      omega
    obtain ⟨q, hq, HD⟩ : ∃ q, q = false ∧ Hid (decide ((⟨a0, a1, a2, a3, a4⟩ : SEdgeR) = ⟨b0, b1, b2, b3, b4⟩) = q) := ⟨_, decide_eq_false h, Lib.hid rfl⟩
    clear h
    rcases hh with h | ⟨rfl, h⟩ | ⟨rfl, rfl, h⟩ | ⟨rfl, rfl, rfl, h⟩ | ⟨rfl, rfl, rfl, rfl, h⟩ <;> (go_enter Try.func94, Try.ntmps94; go_wp2; go_ret; exact ⟨by rw [HD.out, hq]; rfl, hb0⟩)
theorem infoSEdge : (Try.prog.info? 88).map (fun i => (i.zero, i.size, i.bytes)) = some (some (.agg #[.int .i64 0, .int .i64 0, .int .i64 0, .int .i64 0, .int .i64 0]), 5, 40) := by kernel_rfl
theorem take_succSEdge {xs ys : List SEdgeR} {k : Nat} (h : xs.take k = ys.take k) (h1 : k < xs.length) (h2 : k < ys.length) (he : atSEdge xs k = atSEdge ys k) : xs.take (k + 1) = ys.take (k + 1) := by
  rw [List.take_succ_eq_append_getElem h1, List.take_succ_eq_append_getElem h2, h]
  rw [atSEdge_eq xs k h1, atSEdge_eq ys k h2] at he
  rw [he]
set_option maxHeartbeats 3200000 in
theorem eqSEdgeS_any (a b : Option Addr) (n cap m cap' : Nat) (xs ys : List SEdgeR) (w : World) (h : Rd encSEdge 5 w a n cap xs) (h' : Rd encSEdge 5 w b m cap' ys) :
    Calls Try.prog 72 #[.slice a n cap, .slice b m cap'] w fun e w' => e = .returned (.bool (decide (xs = ys))) ∧ Below w.heap.size w w' := by
  have hL := Lib.hid h.len
  have hL' := Lib.hid h'.len
  have hm := h.max
  have hle := h.le
  have hm' := h'.max
  have hle' := h'.le
  unfold maxLen at hm hm'
  by_cases hnm : n = m
  · subst hnm
    go_enter Try.func72, Try.ntmps72
    go_wp2
    go_loopw [5] (fun i wr => ∃ k : Nat, k ≤ n ∧ i = .int .i64 k ∧ xs.take k = ys.take k ∧ Below w.heap.size w wr) (fun i _ => n - (intOf i).toNat)
    case atStart => exact ⟨0, Nat.zero_le _, rfl, rfl, Below.refl _ _⟩
    case round =>
      obtain ⟨k, hk, rfl, he, hb⟩ := hrel
      have HE := Lib.hid he
      clear he
      by_cases hlt : k < n
      · obtain ⟨b1, off1, rfl, hbl1, hc1⟩ := h.rowSEdge (by omega)
        obtain ⟨b2, off2, rfl, hbl2, hc2⟩ := h'.rowSEdge (by omega)
        obtain ⟨k0, k1, k2, k3, k4⟩ := hc1 k hlt
        obtain ⟨l0, l1, l2, l3, l4⟩ := hc2 k hlt
        have cb1 : ∀ o, wr.cell? ⟨b1, o, none⟩ = w.cell? ⟨b1, o, none⟩ := fun o => hb.cell (p := ⟨b1, o, none⟩) hbl1
        have cb2 : ∀ o, wr.cell? ⟨b2, o, none⟩ = w.cell? ⟨b2, o, none⟩ := fun o => hb.cell (p := ⟨b2, o, none⟩) hbl2
        rw [← cb1] at k0 k1 k2 k3 k4
        rw [← cb2] at l0 l1 l2 l3 l4
        clear hc1 hc2 h h' cb1 cb2
        have hi1 : (k : Int) < (n : Int) := by omega
        have m1 : b1 < wr.heap.size := Nat.lt_of_lt_of_le hbl1 hb.size
        have m2 : b2 < wr.heap.size := Nat.lt_of_lt_of_le hbl2 hb.size
        have HT := Lib.hid (fun he => take_succSEdge HE.out (by rw [hL.out]; exact hlt) (by rw [hL'.out]; exact hlt) he)
        have HN : Hid (atSEdge xs k ≠ atSEdge ys k → ¬ xs = ys) := Lib.hid (fun hne e => hne (by rw [e]))
        generalize hx : atSEdge xs k = x at *
        generalize hy : atSEdge ys k = y at *
        clear hx hy
        go_wp2_with fail
        go_region_held3 (fun w' => w'.cell? ⟨b1, off1 + k * 5, none⟩ = some (.int .i64 x.fr) ∧ w'.cell? ⟨b1, off1 + k * 5 + 1, none⟩ = some (.int .i64 x.to) ∧ w'.cell? ⟨b1, off1 + k * 5 + 2, none⟩ = some (.int .i64 x.wt) ∧ w'.cell? ⟨b1, off1 + k * 5 + 3, none⟩ = some (.int .i64 x.ix) ∧ w'.cell? ⟨b1, off1 + k * 5 + 4, none⟩ = some (.int .i64 x.val) ∧ w'.cell? ⟨b2, off2 + k * 5, none⟩ = some (.int .i64 y.fr) ∧ w'.cell? ⟨b2, off2 + k * 5 + 1, none⟩ = some (.int .i64 y.to) ∧ w'.cell? ⟨b2, off2 + k * 5 + 2, none⟩ = some (.int .i64 y.wt) ∧ w'.cell? ⟨b2, off2 + k * 5 + 3, none⟩ = some (.int .i64 y.ix) ∧ w'.cell? ⟨b2, off2 + k * 5 + 4, none⟩ = some (.int .i64 y.val) ∧ Below wr.heap.size wr w') (first | exact keepd10 (by assumption) | exact keep10 (by assumption) (Nat.le_refl _) (by assumption) | exact ⟨k0, k1, k2, k3, k4, l0, l1, l2, l3, l4, (Below.refl _ _).drew⟩) (first | (go_at_call 94; refine (eqSEdge_any x y _).mono ?_; rintro e wa ⟨rfl, hba⟩))
        have hb2 : Below wr.heap.size wr _ := tail10 (by assumption)
        have hb3 := hb.trans (hb2.mono hb.size)
        by_cases hxy : x = y
        · have HQ := Lib.hid (decide_eq_true hxy)
          have HT2 := Lib.hid (HT.out hxy)
          rw [HQ.out]
          clear hxy HT HN
          go_wp2
          go_roundw
          case rel => exact ⟨k + 1, by omega, by go_num, HT2.out, hb3⟩
          case measure => simp [intOf]; omega
        · have HQ := Lib.hid (decide_eq_false hxy)
          have HT2 := Lib.hid (decide_eq_false (HN.out hxy))
          rw [HQ.out]
          clear hxy HT HN
          go_wp2
          go_ret
          exact ⟨by rw [HT2.out]; rfl, hb3⟩
      · obtain rfl : k = n := by omega
        go_wp2
        go_ret
        refine ⟨?_, hb⟩
        have := HE.out
        rw [List.take_of_length_le (by rw [hL.out]; exact Nat.le_refl _), List.take_of_length_le (by rw [hL'.out]; exact Nat.le_refl _)] at this
        simp [this]
  · have hne : ¬ xs = ys := fun e => hnm (by rw [← hL.out, ← hL'.out, e])
    have hi1 : ((n : Int) != (m : Int)) = true := by simp; omega
    go_enter Try.func72, Try.ntmps72
    go_wp2
    go_ret
    exact ⟨by simp [hne], Below.refl _ _⟩
end Go.Proofs.Ythffmjeodoinlaa

/- Shard in the form that the laws' walks use: szX, toX, eqX, markX, heldX of the statements over a Shard of the call's own. -/
namespace Go.Proofs.Ythffmjeodoinlaa
open Go.RowKit
def datShard (y : ShardR) : Int × Int × List SEdgeR := (y.lo, y.hi, y.edges)
def okShard (y : ShardR) : Prop := (In64 y.lo) ∧ (In64 y.hi) ∧ ∀ w0 : World, ∀ z ∈ y.edges, goodSEdge w0 z
structure OwnShard (lo hi : Nat) (w : World) (y : ShardR) : Prop where
  row : OwnS encSEdge 5 88 lo hi w y.edgesA y.edgesN y.edgesC y.edges
  top : hi ≤ w.heap.size
theorem OwnShard.below {lo hi : Nat} {w w' : World} {y : ShardR} (h : OwnShard lo hi w y) (hb : Below w.heap.size w w') : OwnShard lo hi w' y := ⟨h.row.below hb, Nat.le_trans h.top hb.size⟩
theorem OwnShard.win {lo hi lo' hi' : Nat} {w w' : World} {y : ShardR} (h : OwnShard lo hi w y) (hw : Win lo' hi' w w') (hd : hi' ≤ lo ∨ hi ≤ lo') : OwnShard lo hi w' y := ⟨h.row.win hw hd, Nat.le_trans h.top hw.size⟩
theorem OwnShard.lo_le {lo hi lo' : Nat} {w : World} {y : ShardR} (h : OwnShard lo hi w y) (hl : lo' ≤ lo) : OwnShard lo' hi w y := ⟨h.row.lo_le hl, h.top⟩
theorem OwnShard.good {lo hi : Nat} {w : World} {y : ShardR} (h : OwnShard lo hi w y) (g : okShard y) : goodShard w y := ⟨g.1, g.2.1, h.row.rd lenSEdge, g.2.2 w⟩
theorem goodShard_ok {w : World} {y : ShardR} (g : goodShard w y) : okShard y := ⟨g.1, g.2.1, fun _ => g.2.2.2⟩
theorem okShard_dat {y y' : ShardR} (g : okShard y) (h : datShard y' = datShard y) : okShard y' := by
  unfold datShard at h
  simp only [Prod.mk.injEq] at h
  obtain ⟨h0, h1, h2⟩ := h
  unfold okShard
  rw [h0, h1, h2]
  exact g
/-- How much of the budget it takes. -/
def bulkShard (y : ShardR) : Nat := y.edgesN
set_option maxHeartbeats 1600000 in
theorem eqShard_k (x y : ShardR) (D D' : Int × Int × List SEdgeR) (hD : datShard x = D) (hD' : datShard y = D') (w : World) (h : Rd encSEdge 5 w x.edgesA x.edgesN x.edgesC x.edges) (h' : Rd encSEdge 5 w y.edgesA y.edgesN y.edgesC y.edges) :
    Calls Try.prog 59 #[.agg #[.int .i64 x.lo, .int .i64 x.hi, .slice x.edgesA x.edgesN x.edgesC], .agg #[.int .i64 y.lo, .int .i64 y.hi, .slice y.edgesA y.edgesN y.edgesC]] w fun e w' => e = .returned (.bool (decide (D = D'))) ∧ Below w.heap.size w w' := by
  subst hD
  subst hD'
  have hb0 := ((Below.refl w.heap.size w).alloc (Nat.le_refl _) (.cells #[.int .i64 x.lo, .int .i64 x.hi, .slice x.edgesA x.edgesN x.edgesC] 86)).alloc (by simp) (.cells #[.int .i64 y.lo, .int .i64 y.hi, .slice y.edgesA y.edgesN y.edgesC] 86)
  have rx := h.below hb0 (Nat.le_refl _)
  have ry := h'.below hb0 (Nat.le_refl _)
  clear h h'
  obtain ⟨x0, x1, xA, xN, xC, xL⟩ := x
  obtain ⟨y0, y1, yA, yN, yC, yL⟩ := y
  unfold datShard
  simp only at *
  by_cases c0 : x0 = y0
  · subst c0
    by_cases c1 : x1 = y1
    · subst c1
      by_cases cL : xL = yL
      · have HE := Lib.hid (decide_eq_true cL)
        have HD : Hid (decide ((x0, x1, xL) = (x0, x1, yL)) = true) := Lib.hid (by simp [cL])
        clear cL
        go_enter Try.func59, Try.ntmps59
        go_wp2_with fail
        refine (eqSEdgeS_any _ _ _ _ _ _ xL yL _ rx ry).mono ?_
        rintro e w1 ⟨rfl, hb⟩
        rw [HE.out]
        go_wp2
        go_ret
        exact ⟨by rw [HD.out] <;> rfl, hb0.trans (hb.mono (by simp; omega))⟩
      · have HE := Lib.hid (decide_eq_false cL)
        have HD : Hid (decide ((x0, x1, xL) = (x0, x1, yL)) = false) := Lib.hid (by simp [cL])
        clear cL
        go_enter Try.func59, Try.ntmps59
        go_wp2_with fail
        refine (eqSEdgeS_any _ _ _ _ _ _ xL yL _ rx ry).mono ?_
        rintro e w1 ⟨rfl, hb⟩
        rw [HE.out]
        go_wp2
        go_ret
        exact ⟨by rw [HD.out] <;> rfl, hb0.trans (hb.mono (by simp; omega))⟩
    · have HD : Hid (decide ((x0, x1, xL) = (x0, y1, yL)) = false) := Lib.hid (by simp [c1])
      have hk : (x1 != y1) = true := by simp [c1]
      clear c1 rx ry
      go_enter Try.func59, Try.ntmps59
      go_wp2
      go_ret
      exact ⟨by rw [HD.out] <;> rfl, hb0⟩
  · have HD : Hid (decide ((x0, x1, xL) = (y0, y1, yL)) = false) := Lib.hid (by simp [c0])
    have hk : (x0 != y0) = true := by simp [c0]
    clear c0 rx ry
    go_enter Try.func59, Try.ntmps59
    go_wp2
    go_ret
    exact ⟨by rw [HD.out] <;> rfl, hb0⟩
end Go.Proofs.Ythffmjeodoinlaa

/- markTS, heldTS of the statements, for T = SEdge: what each call does. -/
namespace Go.Proofs.Ythffmjeodoinlaa
open Go.RowKit
def mkSEdge (k : Int) (j : Nat) : SEdgeR := ⟨k + 5 * (j : Int), k + 5 * (j : Int) + 1, k + 5 * (j : Int) + 1 + 1, k + 5 * (j : Int) + 1 + 1 + 1, k + 5 * (j : Int) + 1 + 1 + 1 + 1⟩
def mksSEdge (k : Int) (n : Nat) : List SEdgeR := (List.range n).map (mkSEdge k)
theorem mksSEdge_len (k : Int) (n : Nat) : (mksSEdge k n).length = n := by simp [mksSEdge]
theorem mksSEdge_at (k : Int) (n j : Nat) (h : j < n) : atSEdge (mksSEdge k n) j = mkSEdge k j := by
  rw [atSEdge_eq _ _ (by rw [mksSEdge_len]; exact h)]
  simp [mksSEdge]
set_option maxHeartbeats 1600000 in
theorem markSEdgeS_any (a : Option Addr) (n cap : Nat) (zs : List SEdgeR) (k : Int) (lo hi : Nat) (w : World) (h : OwnS encSEdge 5 88 lo hi w a n cap zs) (hn : n ≤ 1073741824) (hk0 : 0 ≤ k) (hk1 : k ≤ 2305843009213693952) :
    Calls Try.prog 62 #[.slice a n cap, .int .i64 k] w fun e w' => e = .returned (.int .i64 (k + 5 * n)) ∧ OwnS encSEdge 5 88 lo hi w' a n cap (mksSEdge k n) ∧ Win lo hi w w' := by
  have HZ := Lib.hid h.len
  have HLT := Lib.hid h.lt
  have htop := h.top
  have hsm := h.small
  have hlo := Lib.hid (fun g hg => (World.ownsRow.lt h.own g hg).1)
  have how := h.own
  rw [← mkG_zero (mkSEdge k) zs] at how
  clear h
  go_enter Try.func62, Try.ntmps62
  go_wp2
  go_loopw [1, 5] (fun q i wr => ∃ j : Nat, j ≤ n ∧ i = .int .i64 j ∧ q = .int .i64 (k + 5 * (j : Int)) ∧ wr.ownsRow lo 88 5 (.slice a n cap) n ((mkG (mkSEdge k) zs j).flatMap encSEdge) ∧ Win lo hi w wr) (fun _ i _ => n - (intOf i).toNat)
  case atStart => exact ⟨0, Nat.zero_le _, rfl, by go_num, how, Win.refl _ _ _⟩
  case round =>
    obtain ⟨j, hj, rfl, rfl, ho, hb⟩ := hrel
    clear how
    by_cases hlt : j < n
    · obtain ⟨g, rfl⟩ := own_some ho (by omega)
      have hg1 := hlo.out g rfl
      have hg2 := HLT.out g rfl
      have hji : (j : Int) < (n : Int) := by omega
      have hset := flat_set encSEdge 5 lenSEdge (mkG (mkSEdge k) zs j) j (by rw [mkG_len _ _ _ (by rw [HZ.out]; exact hj), HZ.out]; exact hlt) (mkSEdge k j)
      rw [mkG_set _ _ _ (by rw [HZ.out]; exact hlt)] at hset
      have HS := Lib.hid hset
      clear hset
      have hf0 := ho.frozenAt (j * 5)
      have hf1 := ho.frozenAt (j * 5 + 1)
      have hf2 := ho.frozenAt (j * 5 + 2)
      have hf3 := ho.frozenAt (j * 5 + 3)
      have hf4 := ho.frozenAt (j * 5 + 4)
      have hd : ∀ i, i < 5 → ∃ d, wr.cell? ⟨g, j * 5 + i, none⟩ = some d := fun i hi => by
        rw [ho.cellAt _ (by omega)]
        exact ⟨_, List.getElem?_eq_getElem (by rw [ho.1]; omega)⟩
      obtain ⟨d0, hd0⟩ := hd 0 (by omega)
      obtain ⟨d1, hd1⟩ := hd 1 (by omega)
      obtain ⟨d2, hd2⟩ := hd 2 (by omega)
      obtain ⟨d3, hd3⟩ := hd 3 (by omega)
      obtain ⟨d4, hd4⟩ := hd 4 (by omega)
      simp only [Nat.add_zero] at hd0
      clear hd
      have s0 := (ho.stored (j * 5) (.int .i64 (k + 5 * (j : Int)))).1
      have s1 := (s0.stored (j * 5 + 1) (.int .i64 (k + 5 * (j : Int) + 1))).1
      have s2 := (s1.stored (j * 5 + 2) (.int .i64 (k + 5 * (j : Int) + 1 + 1))).1
      have s3 := (s2.stored (j * 5 + 3) (.int .i64 (k + 5 * (j : Int) + 1 + 1 + 1))).1
      have s4 := (s3.stored (j * 5 + 4) (.int .i64 (k + 5 * (j : Int) + 1 + 1 + 1 + 1))).1
      clear ho s0 s1 s2 s3
      go_wp2
      go_roundw
      case rel => exact ⟨j + 1, by omega, by go_num, by go_num, by rw [← HS.out]; exact s4, (((((hb.trans (Win.set _ g (j * 5) _ hg1 hg2)).trans (Win.set _ g (j * 5 + 1) _ hg1 hg2)).trans (Win.set _ g (j * 5 + 2) _ hg1 hg2)).trans (Win.set _ g (j * 5 + 3) _ hg1 hg2)).trans (Win.set _ g (j * 5 + 4) _ hg1 hg2))⟩
      case measure => simp [intOf]; omega
    · obtain rfl : j = n := by omega
      rw [← HZ.out, mkG_all, HZ.out] at ho
      go_wp2
      go_ret
      exact ⟨rfl, ⟨mksSEdge_len _ _, ho, HLT.out, Nat.le_trans htop hb.size, hsm⟩, hb⟩
set_option maxHeartbeats 1600000 in
theorem heldSEdgeS_any (a : Option Addr) (n cap : Nat) (k : Int) (w : World) (h : Rd encSEdge 5 w a n cap (mksSEdge k n)) (hn : n ≤ 1073741824) (hk0 : 0 ≤ k) (hk1 : k ≤ 2305843009213693952) :
    Calls Try.prog 63 #[.slice a n cap, .int .i64 k] w fun e w' => e = .returned (.int .i64 (k + 5 * n)) ∧ Below w.heap.size w w' := by
  have hm := h.max
  have hle := h.le
  unfold maxLen at hm
  go_enter Try.func63, Try.ntmps63
  go_wp2
  go_loopw [1, 5] (fun q i wr => ∃ j : Nat, j ≤ n ∧ i = .int .i64 j ∧ q = .int .i64 (k + 5 * (j : Int)) ∧ Below w.heap.size w wr) (fun _ i _ => n - (intOf i).toNat)
  case atStart => exact ⟨0, Nat.zero_le _, rfl, by go_num, Below.refl _ _⟩
  case round =>
    obtain ⟨j, hj, rfl, rfl, hb⟩ := hrel
    by_cases hlt : j < n
    · obtain ⟨b, off, rfl, hbl, hc⟩ := h.rowSEdge (by omega)
      obtain ⟨k0, k1, k2, k3, k4⟩ := hc j hlt
      have cb : ∀ o, wr.cell? ⟨b, o, none⟩ = w.cell? ⟨b, o, none⟩ := fun o => hb.cell (p := ⟨b, o, none⟩) hbl
      rw [← cb, mksSEdge_at k n j hlt] at k0 k1 k2 k3 k4
      have hi1 : (j : Int) < (n : Int) := by omega
      unfold mkSEdge at k0 k1 k2 k3 k4
      simp only at k0 k1 k2 k3 k4
      clear hc h cb
      go_wp2
      go_roundw
      case rel => exact ⟨j + 1, by omega, by go_num, by go_num, hb⟩
      case measure => simp [intOf]; omega
    · obtain rfl : j = n := by omega
      go_wp2
      go_ret
      exact ⟨rfl, hb⟩
end Go.Proofs.Ythffmjeodoinlaa

/- The kind Shard. -/
namespace Go.Proofs.Ythffmjeodoinlaa
open Go.RowKit
def rdShard (w : World) (y : ShardR) : Prop := Rd encSEdge 5 w y.edgesA y.edgesN y.edgesC y.edges
theorem rdShard_below {w w' : World} {y : ShardR} (h : rdShard w y) {B : Nat} (hb : Below B w w') (hB : w.heap.size ≤ B) : rdShard w' y := Rd.below h hb hB
theorem OwnShard.rd {lo hi : Nat} {w : World} {y : ShardR} (h : OwnShard lo hi w y) : rdShard w y := h.row.rd lenSEdge

def cntShard (y : ShardR) : Nat := 5 * y.edgesN
theorem cntShard_le {y : ShardR} {b : Nat} (h : bulkShard y ≤ b) : cntShard y ≤ 1000 * b := by unfold bulkShard at h; unfold cntShard; omega
theorem cntShard_own {lo hi : Nat} {w : World} {y : ShardR} {b : Nat} (_h : OwnShard lo hi w y) (hb : bulkShard y ≤ b) : cntShard y ≤ 1000 * b := cntShard_le hb
def HeldShard (k : Int) (w : World) (y : ShardR) : Prop := y.edgesN ≤ 1048576 ∧ Rd encSEdge 5 w y.edgesA y.edgesN y.edgesC (mksSEdge k y.edgesN)
theorem HeldShard.below {k : Int} {w w' : World} {y : ShardR} (h : HeldShard k w y) (hb : Below w.heap.size w w') : HeldShard k w' y := ⟨h.1, h.2.below hb (Nat.le_refl _)⟩
theorem goodShard_rd {w : World} {y : ShardR} (g : goodShard w y) : rdShard w y := g.2.2.1
end Go.Proofs.Ythffmjeodoinlaa

/- The kind ShardS: rows of Shard, each with a row of its own. -/
namespace Go.Proofs.Ythffmjeodoinlaa
open Go.RowKit
def zShard : ShardR := ⟨0, 0, none, 0, 0, []⟩
def atShard (xs : List ShardR) (j : Nat) : ShardR := xs.getD j zShard
theorem atShard_eq (xs : List ShardR) (j : Nat) (h : j < xs.length) : atShard xs j = xs[j] := by simp [atShard, List.getD, h]
theorem lenShard : ∀ x : ShardR, (encShard x).length = 3 := fun _ => rfl
theorem Rd.rowShard {w : World} {a : Option Addr} {n cap : Nat} {xs : List ShardR} (h : Rd encShard 3 w a n cap xs) (hn : 0 < n) :
    ∃ b off, a = some ⟨b, off, none⟩ ∧ b < w.heap.size ∧ ∀ j, j < n → w.cell? ⟨b, off + j * 3, none⟩ = some (.int .i64 (atShard xs j).lo) ∧ w.cell? ⟨b, off + j * 3 + 1, none⟩ = some (.int .i64 (atShard xs j).hi) ∧ w.cell? ⟨b, off + j * 3 + 2, none⟩ = some (.slice (atShard xs j).edgesA (atShard xs j).edgesN (atShard xs j).edgesC) := by
  obtain ⟨b, off, ha, hl, hc⟩ := h.spot hn
  refine ⟨b, off, ha, hl, fun j hj => ?_⟩
  have hj' : j < xs.length := by rw [h.len]; exact hj
  rw [atShard_eq xs j hj']
  exact ⟨hc j hj' 0 (.int .i64 xs[j].lo) rfl, hc j hj' 1 (.int .i64 xs[j].hi) rfl, hc j hj' 2 (.slice xs[j].edgesA xs[j].edgesN xs[j].edgesC) rfl⟩
def slShard (x : ShardR) : Row SEdgeR := ⟨x.edgesA, x.edgesN, x.edgesC, x.edges⟩
def datShardS (y : Row ShardR) : List (Int × Int × List SEdgeR) := y.l.map datShard
def rdShardS (w : World) (y : Row ShardR) : Prop := RdN encShard 3 encSEdge 5 slShard w y
theorem rdShardS_below {w w' : World} {y : Row ShardR} (h : rdShardS w y) {B : Nat} (hb : Below B w w') (hB : w.heap.size ≤ B) : rdShardS w' y := RdN.below h hb hB
structure OwnShardS (lo hi : Nat) (w : World) (y : Row ShardR) : Prop where
  nest : OwnN encShard 3 86 encSEdge 5 88 slShard lo hi w y
theorem OwnShardS.below {lo hi : Nat} {w w' : World} {y : Row ShardR} (h : OwnShardS lo hi w y) (hb : Below w.heap.size w w') : OwnShardS lo hi w' y := ⟨h.nest.below hb⟩
theorem OwnShardS.win {lo hi lo' hi' : Nat} {w w' : World} {y : Row ShardR} (h : OwnShardS lo hi w y) (hw : Win lo' hi' w w') (hd : hi' ≤ lo ∨ hi ≤ lo') : OwnShardS lo hi w' y := ⟨h.nest.win hw hd⟩
theorem OwnShardS.lo_le {lo hi lo' : Nat} {w : World} {y : Row ShardR} (h : OwnShardS lo hi w y) (hl : lo' ≤ lo) : OwnShardS lo' hi w y := ⟨h.nest.lo_le hl⟩
theorem OwnShardS.rd {lo hi : Nat} {w : World} {y : Row ShardR} (h : OwnShardS lo hi w y) : rdShardS w y := h.nest.rd lenShard lenSEdge
def preShard (xs : List ShardR) (j : Nat) : Nat := ((xs.take j).map bulkShard).sum
theorem preShard_succ (xs : List ShardR) (j : Nat) (h : j < xs.length) : preShard xs (j + 1) = preShard xs j + bulkShard (atShard xs j) := by
  unfold preShard
  rw [List.take_succ_eq_append_getElem h, atShard_eq xs j h, List.map_append, List.sum_append]
  simp only [List.map_cons, List.map_nil, List.sum_cons, List.sum_nil, Nat.add_zero]
theorem preShard_le (xs : List ShardR) : ∀ d j, preShard xs j ≤ preShard xs (j + d) := by
  intro d
  induction d with
  | zero => intro j; exact Nat.le_refl _
  | succ d ih =>
    intro j
    refine Nat.le_trans (ih j) ?_
    by_cases h : j + d < xs.length
    · rw [show j + (d + 1) = j + d + 1 from by omega, preShard_succ xs _ h]; omega
    · unfold preShard
      rw [List.take_of_length_le (show xs.length ≤ j + d by omega), List.take_of_length_le (show xs.length ≤ j + (d + 1) by omega)]
      exact Nat.le_refl _
theorem preShard_top (xs : List ShardR) (j : Nat) (h : j < xs.length) : preShard xs j + bulkShard (atShard xs j) ≤ preShard xs xs.length := by
  rw [← preShard_succ xs j h]
  have := preShard_le xs (xs.length - (j + 1)) (j + 1)
  rw [show j + 1 + (xs.length - (j + 1)) = xs.length from by omega] at this
  exact this
def bulkShardS (y : Row ShardR) : Nat := y.n + preShard y.l y.l.length
theorem take_succ_datShard {xs ys : List ShardR} {k : Nat} (h : (xs.take k).map datShard = (ys.take k).map datShard) (h1 : k < xs.length) (h2 : k < ys.length) (he : datShard (atShard xs k) = datShard (atShard ys k)) : (xs.take (k + 1)).map datShard = (ys.take (k + 1)).map datShard := by
  rw [List.take_succ_eq_append_getElem h1, List.take_succ_eq_append_getElem h2, List.map_append, List.map_append, h]
  rw [atShard_eq xs k h1, atShard_eq ys k h2] at he
  simp [he]
theorem ne_datShard {xs ys : List ShardR} {k : Nat} (h1 : k < xs.length) (h2 : k < ys.length) (he : ¬ datShard (atShard xs k) = datShard (atShard ys k)) : ¬ xs.map datShard = ys.map datShard := by
  intro h
  apply he
  have := congrArg (fun l => l[k]?) h
  simp only [List.getElem?_map, List.getElem?_eq_getElem h1, List.getElem?_eq_getElem h2, Option.map_some, Option.some.injEq] at this
  rw [atShard_eq xs k h1, atShard_eq ys k h2]
  exact this
set_option maxHeartbeats 3200000 in
theorem eqShardS_any (a b : Option Addr) (n cap m cap' : Nat) (xs ys : List ShardR) (w : World) (h : rdShardS w ⟨a, n, cap, xs⟩) (h' : rdShardS w ⟨b, m, cap', ys⟩) :
    Calls Try.prog 30 #[.slice a n cap, .slice b m cap'] w fun e w' => e = .returned (.bool (decide (xs.map datShard = ys.map datShard))) ∧ Below w.heap.size w w' := by
  obtain ⟨gr, gi⟩ := h
  obtain ⟨gr', gi'⟩ := h'
  simp only at gr gi gr' gi'
  have hL := Lib.hid gr.len
  have hL' := Lib.hid gr'.len
  have hm := gr.max
  have hle := gr.le
  have hm' := gr'.max
  have hle' := gr'.le
  unfold maxLen at hm hm'
  by_cases hnm : n = m
  · subst hnm
    go_enter Try.func30, Try.ntmps30
    go_wp2
    go_loopw [5] (fun i wr => ∃ k : Nat, k ≤ n ∧ i = .int .i64 k ∧ (xs.take k).map datShard = (ys.take k).map datShard ∧ Below w.heap.size w wr) (fun i _ => n - (intOf i).toNat)
    case atStart => exact ⟨0, Nat.zero_le _, rfl, rfl, Below.refl _ _⟩
    case round =>
      obtain ⟨k, hk, rfl, he, hb⟩ := hrel
      have HE := Lib.hid he
      clear he
      by_cases hlt : k < n
      · obtain ⟨b1, off1, rfl, hbl1, hc1⟩ := gr.rowShard (by omega)
        obtain ⟨b2, off2, rfl, hbl2, hc2⟩ := gr'.rowShard (by omega)
        obtain ⟨k0, k1, k2⟩ := hc1 k hlt
        obtain ⟨l0, l1, l2⟩ := hc2 k hlt
        have cb1 : ∀ o, wr.cell? ⟨b1, o, none⟩ = w.cell? ⟨b1, o, none⟩ := fun o => hb.cell (p := ⟨b1, o, none⟩) hbl1
        have cb2 : ∀ o, wr.cell? ⟨b2, o, none⟩ = w.cell? ⟨b2, o, none⟩ := fun o => hb.cell (p := ⟨b2, o, none⟩) hbl2
        rw [← cb1] at k0 k1 k2
        rw [← cb2] at l0 l1 l2
        have kx : k < xs.length := by rw [hL.out]; exact hlt
        have ky : k < ys.length := by rw [hL'.out]; exact hlt
        have rx : rdShard wr (atShard xs k) := by rw [atShard_eq xs k kx]; exact rdShard_below (gi _ (List.getElem_mem kx)) hb (Nat.le_refl _)
        have ry : rdShard wr (atShard ys k) := by rw [atShard_eq ys k ky]; exact rdShard_below (gi' _ (List.getElem_mem ky)) hb (Nat.le_refl _)
        clear hc1 hc2 cb1 cb2 gr gr' gi gi'
        have hi1 : (k : Int) < (n : Int) := by omega
        have HT := Lib.hid (fun he => take_succ_datShard HE.out kx ky he)
        have HN := Lib.hid (fun he => ne_datShard kx ky he)
        have HRX := Lib.hid rx
        have HRY := Lib.hid ry
        clear rx ry
        generalize hx : atShard xs k = x at *
        generalize hy : atShard ys k = y at *
        clear hx hy
        go_wp2_with fail
        go_region_held3 (fun w' => w'.cell? ⟨b1, off1 + k * 3, none⟩ = some (.int .i64 x.lo) ∧ w'.cell? ⟨b1, off1 + k * 3 + 1, none⟩ = some (.int .i64 x.hi) ∧ w'.cell? ⟨b1, off1 + k * 3 + 2, none⟩ = some (.slice x.edgesA x.edgesN x.edgesC) ∧ w'.cell? ⟨b2, off2 + k * 3, none⟩ = some (.int .i64 y.lo) ∧ w'.cell? ⟨b2, off2 + k * 3 + 1, none⟩ = some (.int .i64 y.hi) ∧ w'.cell? ⟨b2, off2 + k * 3 + 2, none⟩ = some (.slice y.edgesA y.edgesN y.edgesC) ∧ Below wr.heap.size wr w') (first | exact keepd6 (by assumption) | exact keep6 (by assumption) (Nat.le_refl _) (by assumption) | exact ⟨k0, k1, k2, l0, l1, l2, (Below.refl _ _).drew⟩) (first | (go_at_call 59; refine (eqShard_k x y _ _ rfl rfl _ (rdShard_below HRX.out (tail6 (by assumption) : Below wr.heap.size wr _) (Nat.le_refl _)) (rdShard_below HRY.out (tail6 (by assumption) : Below wr.heap.size wr _) (Nat.le_refl _))).mono ?_; rintro e wa ⟨rfl, hba⟩))
        have hb2 : Below wr.heap.size wr _ := tail6 (by assumption)
        have hb3 := hb.trans (hb2.mono hb.size)
        by_cases hxy : datShard x = datShard y
        · have HQ := Lib.hid (decide_eq_true hxy)
          have HT2 := Lib.hid (HT.out hxy)
          rw [HQ.out]
          clear hxy HT HN
          go_wp2
          go_roundw
          case rel => exact ⟨k + 1, by omega, by go_num, HT2.out, hb3⟩
          case measure => simp [intOf]; omega
        · have HQ := Lib.hid (decide_eq_false hxy)
          have HT2 := Lib.hid (decide_eq_false (HN.out hxy))
          rw [HQ.out]
          clear hxy HT HN
          go_wp2
          go_ret
          exact ⟨by rw [HT2.out] <;> rfl, hb3⟩
      · obtain rfl : k = n := by omega
        go_wp2
        go_ret
        refine ⟨?_, hb⟩
        have := HE.out
        rw [List.take_of_length_le (by rw [hL.out]; exact Nat.le_refl _), List.take_of_length_le (by rw [hL'.out]; exact Nat.le_refl _)] at this
        simp [this]
  · have hne : ¬ xs.map datShard = ys.map datShard := fun e => hnm (by have := congrArg List.length e; simp only [List.length_map] at this; rw [← hL.out, ← hL'.out, this])
    have hi1 : ((n : Int) != (m : Int)) = true := by simp; omega
    go_enter Try.func30, Try.ntmps30
    go_wp2
    go_ret
    exact ⟨by simp [hne], Below.refl _ _⟩
theorem eqShardS_k (x y : Row ShardR) (D D' : List (Int × Int × List SEdgeR)) (hD : datShardS x = D) (hD' : datShardS y = D') (w : World) (h : rdShardS w x) (h' : rdShardS w y) :
    Calls Try.prog 30 #[.slice x.a x.n x.c, .slice y.a y.n y.c] w fun e w' => e = .returned (.bool (decide (D = D'))) ∧ Below w.heap.size w w' := by
  subst hD
  subst hD'
  exact eqShardS_any _ _ _ _ _ _ _ _ _ h h'
def stepShard (x : ShardR) : Nat := 2 + cntShard x
def preCShard (xs : List ShardR) (j : Nat) : Nat := ((xs.take j).map stepShard).sum
theorem preCShard_succ (xs : List ShardR) (j : Nat) (h : j < xs.length) : preCShard xs (j + 1) = preCShard xs j + stepShard (atShard xs j) := by
  unfold preCShard
  rw [List.take_succ_eq_append_getElem h, atShard_eq xs j h, List.map_append, List.sum_append]
  simp only [List.map_cons, List.map_nil, List.sum_cons, List.sum_nil, Nat.add_zero]
theorem preCShard_bd (xs : List ShardR) (j : Nat) : preCShard xs j ≤ 1000 * (j + preShard xs j) := by
  induction j with
  | zero => simp [preCShard]
  | succ j ih =>
    by_cases h : j < xs.length
    · rw [preCShard_succ xs j h, preShard_succ xs j h]
      have := cntShard_le (y := atShard xs j) (b := bulkShard (atShard xs j)) (Nat.le_refl _)
      unfold stepShard
      omega
    · have e1 : preCShard xs (j + 1) = preCShard xs j := by unfold preCShard; rw [List.take_of_length_le (by omega), List.take_of_length_le (show xs.length ≤ j by omega)]
      have e2 : preShard xs (j + 1) = preShard xs j := by unfold preShard; rw [List.take_of_length_le (by omega), List.take_of_length_le (show xs.length ≤ j by omega)]
      rw [e1, e2]
      omega
def cntShardS (y : Row ShardR) : Nat := preCShard y.l y.l.length
theorem cntShardS_le {y : Row ShardR} {b : Nat} (hl : y.l.length = y.n) (h : bulkShardS y ≤ b) : cntShardS y ≤ 1000 * b := by
  unfold bulkShardS at h
  unfold cntShardS
  have := preCShard_bd y.l y.l.length
  omega
theorem cntShardS_own {lo hi : Nat} {w : World} {y : Row ShardR} {b : Nat} (h : OwnShardS lo hi w y) (hb : bulkShardS y ≤ b) : cntShardS y ≤ 1000 * b := cntShardS_le h.nest.row.len hb
def markedShard (k : Int) (x : ShardR) : ShardR := ⟨k, k + 1, x.edgesA, x.edgesN, x.edgesC, (mksSEdge (k + 1 + 1) x.edgesN)⟩
/-- After j of the marks. -/
def stLShard (k : Int) (xs : List ShardR) (j : Nat) : List ShardR := (List.range xs.length).map fun i => if i < j then markedShard (k + (preCShard xs i : Int)) (atShard xs i) else atShard xs i
theorem stLShard_len (k : Int) (xs : List ShardR) (j : Nat) : (stLShard k xs j).length = xs.length := by simp [stLShard]
theorem stLShard_get (k : Int) (xs : List ShardR) (j i : Nat) (h : i < (stLShard k xs j).length) : (stLShard k xs j)[i] = if i < j then markedShard (k + (preCShard xs i : Int)) (atShard xs i) else atShard xs i := by simp [stLShard]
theorem stLShard_zero (k : Int) (xs : List ShardR) : stLShard k xs 0 = xs := by
  apply List.ext_getElem
  · rw [stLShard_len]
  · intro i h1 h2
    rw [stLShard_get, if_neg (by omega), atShard_eq xs i h2]
theorem stLShard_set (k : Int) (xs : List ShardR) (j : Nat) (_h : j < xs.length) : (stLShard k xs j).set j (markedShard (k + (preCShard xs j : Int)) (atShard xs j)) = stLShard k xs (j + 1) := by
  apply List.ext_getElem
  · rw [List.length_set, stLShard_len, stLShard_len]
  · intro i h1 h2
    rw [List.getElem_set, stLShard_get _ _ _ _ h2]
    by_cases hji : j = i
    · subst hji; rw [if_pos rfl, if_pos (by omega)]
    · rw [if_neg hji, stLShard_get]
      by_cases hi : i < j
      · rw [if_pos hi, if_pos (by omega)]
      · rw [if_neg hi, if_neg (by omega)]
def HeldShardS (k : Int) (w : World) (y : Row ShardR) : Prop := (bulkShardS y ≤ 1048576 ∧ y.l.length = y.n) ∧ RdN encShard 3 encSEdge 5 slShard w ⟨y.a, y.n, y.c, stLShard k y.l y.l.length⟩
theorem HeldShardS.below {k : Int} {w w' : World} {y : Row ShardR} (h : HeldShardS k w y) (hb : Below w.heap.size w w') : HeldShardS k w' y := ⟨h.1, h.2.below hb (Nat.le_refl _)⟩
theorem set_same {l : List Value} {i : Nat} {c : Value} (h : l[i]? = some c) : l.set i c = l := by
  obtain ⟨hi, rfl⟩ := List.getElem?_eq_some_iff.1 h
  exact List.set_getElem_self hi
set_option maxHeartbeats 3200000 in
theorem markShardS_k (y : Row ShardR) (k : Int) (lo hi : Nat) (w : World) (h : OwnShardS lo hi w y) (hn : bulkShardS y ≤ 1048576) (hk0 : 0 ≤ k) (hk1 : k ≤ 1152921504606846976) :
    Calls Try.prog 35 #[.slice y.a y.n y.c, .int .i64 k] w fun e w' => e = .returned (.int .i64 (k + cntShardS y)) ∧ HeldShardS k w' y ∧ Win lo hi w w' := by
  obtain ⟨a, n, c, xs⟩ := y
  obtain ⟨hN0⟩ := h
  have hL := Lib.hid hN0.row.len
  simp only at hL ⊢
  have HBK := Lib.hid hn
  have hn2 : n + preShard xs n ≤ 1048576 := by unfold bulkShardS at hn; simp only at hn; rw [hL.out] at hn; exact hn
  have hcb := preCShard_bd xs n
  have HCN : Hid (cntShardS ⟨a, n, c, xs⟩ = preCShard xs n) := Lib.hid (by unfold cntShardS; simp only; rw [hL.out])
  rw [← stLShard_zero k xs] at hN0
  clear hn
  go_enter Try.func35, Try.ntmps35
  go_wp2
  go_loopw [1, 5] (fun q i wr => ∃ j : Nat, j ≤ n ∧ i = .int .i64 j ∧ q = .int .i64 (k + (preCShard xs j : Int)) ∧ OwnN encShard 3 86 encSEdge 5 88 slShard lo hi wr ⟨a, n, c, stLShard k xs j⟩ ∧ Win lo hi w wr) (fun _ i _ => n - (intOf i).toNat)
  case atStart => exact ⟨0, Nat.zero_le _, rfl, by unfold preCShard; simp, hN0, Win.refl _ _ _⟩
  case round =>
    obtain ⟨j, hj, rfl, rfl, hN, hb⟩ := hrel
    clear hN0
    by_cases hlt : j < n
    · obtain ⟨g, hga⟩ := own_some hN.row.own (by simp only; omega)
      simp only at hga
      subst hga
      have hg1 := (World.ownsRow.lt hN.row.own g rfl).1
      have hg2 := hN.row.lt g rfl
      have hjx : j < xs.length := by rw [hL.out]; exact hlt
      have hjl : j < (stLShard k xs j).length := by rw [stLShard_len]; exact hjx
      have hget : (stLShard k xs j)[j]'hjl = atShard xs j := by rw [stLShard_get, if_neg (by omega)]
      obtain ⟨b', off', hbo, _, hc⟩ := (hN.row.rd lenShard).rowShard (by simp only; omega)
      simp only [Option.some.injEq, Addr.mk.injEq, and_true] at hbo
      obtain ⟨rfl, rfl⟩ := hbo
      obtain ⟨k0, k1, k2⟩ := hc j hlt
      rw [atShard_eq _ j hjl, hget] at k0 k1 k2
      simp only [Nat.zero_add] at k0 k1 k2
      have hps := preCShard_succ xs j hjx
      have htop := preShard_top xs j hjx
      rw [hL.out] at htop
      have hcj := preCShard_bd xs j
      have hplj := preShard_le xs (n - j) j
      rw [show j + (n - j) = n from by omega] at hplj
      have HP := Lib.hid hps
      have HSET := Lib.hid (stLShard_set k xs j hjx)
      have HFL := Lib.hid (fun x' => flat_set encShard 3 lenShard (stLShard k xs j) j hjl x')
      have hinn := hN.inner j hjl
      have hapt := fun g' hg' => hN.apart j hjl g' hg'
      simp only at hinn hapt
      rw [hget] at hinn
      have HAPT := Lib.hid (fun g' (hg' : blkR (slShard (atShard xs j)) = some g') => hapt g' (by rw [hget]; exact hg'))
      have HHDR : Hid (((stLShard k xs j).flatMap encShard)[j * 3 + 2]? = some (.slice (atShard xs j).edgesA (atShard xs j).edgesN (atShard xs j).edgesC)) := Lib.hid (by rw [← hN.row.own.cellAt _ (by simp only; omega)]; exact k2)
      have HGET := Lib.hid hget
      clear hc hps hget hapt
      have hi1 : (j : Int) < (n : Int) := by omega
      generalize hx : atShard xs j = x at *
      clear hx
      obtain ⟨kk, hkk⟩ : ∃ kk : Int, kk = k + (preCShard xs j : Int) := ⟨_, rfl⟩
      rw [← hkk] at HSET ⊢
      have hkk0 : 0 ≤ kk := by omega
      have hkk1 : kk ≤ 2305843009213690000 := by omega
      have HKK := Lib.hid hkk
      clear hkk
      have hxn : x.edgesN ≤ 1048576 := by unfold bulkShard at htop; omega
      obtain ⟨l, u, htight, hlu⟩ := hinn.tight
      have hf0 := hN.row.own.frozenAt (j * 3)
      have hf1 := hN.row.own.frozenAt (j * 3 + 1)
      have s0 := (hN.row.own.stored (j * 3) (.int .i64 (kk))).1
      have s1 := (s0.stored (j * 3 + 1) (.int .i64 (kk + 1))).1
      have hw1 : Win g (g + 1) wr ((wr.setCell ⟨g, j * 3, none⟩ (.int .i64 (kk))).setCell ⟨g, j * 3 + 1, none⟩ (.int .i64 (kk + 1))) := (((Win.refl g (g + 1) wr).trans (Win.set _ g (j * 3) (.int .i64 (kk)) (Nat.le_refl _) (Nat.lt_succ_self _))).trans (Win.set _ g (j * 3 + 1) (.int .i64 (kk + 1)) (Nat.le_refl _) (Nat.lt_succ_self _)))
      have HLU := Lib.hid hlu
      have HSL := Lib.hid s1
      have HN := Lib.hid hN
      have HW1 := Lib.hid hw1
      have hin1 : OwnS encSEdge 5 88 l u ((wr.setCell ⟨g, j * 3, none⟩ (.int .i64 (kk))).setCell ⟨g, j * 3 + 1, none⟩ (.int .i64 (kk + 1))) x.edgesA x.edgesN x.edgesC x.edges := htight.keep (fun g' hg' => hw1.block g' (by have := htight.lt g' hg'; have := htight.top; omega) (by
        have hne : g' ≠ g := fun e => by subst e; exact HAPT.out g' hg' rfl
        omega)) (Nat.le_refl _) (Nat.le_trans htight.top hw1.size)
      clear hN hw1 hinn hlu
      go_wp2_with fail
      refine (markSEdgeS_any _ _ _ _ (kk + 1 + 1) l u _ hin1 (by omega) (by omega) (by omega)).mono ?_
      rintro e w2 ⟨rfl, ho2, hw2⟩
      have hglu : g < l ∨ u ≤ g := by
        by_cases c1 : l ≤ g ∧ g < u
        · exact absurd (HLU.out g c1.1 c1.2) (fun e => HAPT.out g e rfl)
        · omega
      have hNEW : OwnN encShard 3 86 encSEdge 5 88 slShard lo hi w2 ⟨some ⟨g, 0, none⟩, n, c, stLShard k xs (j + 1)⟩ := by
        rw [← HSET.out]
        have hjl : j < (stLShard k xs j).length := by rw [stLShard_len, hL.out]; exact hlt
        have hsz1 := HW1.out.size
        have hsz2 := hw2.size
        refine HN.out.put j hjl (markedShard kk x) ?_ ?_ ?_ ?_ (Nat.le_refl _) (Nat.le_trans HN.out.row.top (Nat.le_trans hsz1 hsz2))
        · have hlist : ((((stLShard k xs j).flatMap encShard).set (j * 3) (.int .i64 (kk))).set (j * 3 + 1) (.int .i64 (kk + 1))) = ((stLShard k xs j).set j (markedShard kk x)).flatMap encShard := by
            rw [← HFL.out (markedShard kk x)]
            refine (set_same (i := j * 3 + 2) (c := .slice x.edgesA x.edgesN x.edgesC) ?_).symm
            try simp only [List.getElem?_set]
            simp [HHDR.out]
          have hrow0 : World.ownsRow ((wr.setCell ⟨g, j * 3, none⟩ (.int .i64 (kk))).setCell ⟨g, j * 3 + 1, none⟩ (.int .i64 (kk + 1))) lo 86 3 (.slice (some ⟨g, 0, none⟩) n c) n (((stLShard k xs j).set j (markedShard kk x)).flatMap encShard) := by rw [← hlist]; exact HSL.out
          exact ⟨by rw [List.length_set, stLShard_len]; exact hL.out, own_keep hrow0 (fun g' hg' => by cases hg'; exact hw2.block g (by have := HN.out.row.top; omega) hglu), HN.out.row.lt, Nat.le_trans HN.out.row.top (Nat.le_trans hsz1 hsz2), HN.out.row.small⟩
        · have h3 := HN.out.inner j hjl
          rw [HGET.out] at h3
          exact ⟨ho2.len, own_rebase ho2.own (fun g' hg' => (World.ownsRow.lt h3.own g' hg').1), h3.lt, Nat.le_trans h3.top (Nat.le_trans hsz1 hsz2), ho2.small⟩
        · intro g' hg'
          left
          rw [HGET.out]
          exact hg'
        · intro q hq hne1 hne2
          rw [HGET.out] at hne2
          have hqg : q ≠ g := fun e => hne1 (by rw [e]; rfl)
          have hqlu : q < l ∨ u ≤ q := by
            by_cases c1 : l ≤ q ∧ q < u
            · exact absurd (HLU.out q c1.1 c1.2) hne2
            · omega
          rw [hw2.block q (by omega) hqlu, HW1.out.block q hq (by omega)]
      have hWN : Win lo hi w w2 := by
        have h3 := HN.out.inner j (by rw [stLShard_len, hL.out]; exact hlt)
        rw [HGET.out] at h3
        refine hb.trans ((HW1.out.mono hg1 (by omega)).trans ⟨hw2.os, hw2.tape, hw2.output, hw2.size, fun q hq hqq => hw2.block q hq ?_⟩)
        by_cases c1 : l ≤ q ∧ q < u
        · have hbq := HLU.out q c1.1 c1.2
          have e1 := h3.lt q hbq
          have e2 := (World.ownsRow.lt h3.own q hbq).1
          omega
        · omega
      have hfin : kk + 1 + 1 + 5 * (x.edgesN : Int) = k + (preCShard xs (j + 1) : Int) := by
        rw [HP.out, HKK.out]
        unfold stepShard cntShard
        omega
      have HFIN := Lib.hid hfin
      have HNEW := Lib.hid hNEW
      clear hfin hNEW hin1 ho2 htight
      go_wp2
      go_roundw
      case rel => exact ⟨j + 1, by omega, by go_num, by rw [← HFIN.out] <;> go_num, HNEW.out, hWN⟩
      case measure => simp [intOf]; omega
    · obtain rfl : j = n := by omega
      go_wp2
      go_ret
      exact ⟨by rw [HCN.out] <;> rfl, ⟨⟨HBK.out, hL.out⟩, by have := hN.rd lenShard lenSEdge; simp only; rw [hL.out]; exact this⟩, hb⟩
set_option maxHeartbeats 1600000 in
theorem heldShardS_k (y : Row ShardR) (k : Int) (w : World) (h : HeldShardS k w y) (hk0 : 0 ≤ k) (hk1 : k ≤ 1152921504606846976) :
    Calls Try.prog 36 #[.slice y.a y.n y.c, .int .i64 k] w fun e w' => e = .returned (.int .i64 (k + cntShardS y)) ∧ Below w.heap.size w w' := by
  obtain ⟨a, n, c, xs⟩ := y
  obtain ⟨⟨hn, hl⟩, gr, gi⟩ := h
  simp only at hl gr gi ⊢
  have hL := Lib.hid hl
  have hm := gr.max
  have hle := gr.le
  unfold maxLen at hm
  have hn2 : n + preShard xs n ≤ 1048576 := by unfold bulkShardS at hn; simp only at hn; rw [hL.out] at hn; exact hn
  have hcb := preCShard_bd xs n
  have HCN : Hid (cntShardS ⟨a, n, c, xs⟩ = preCShard xs n) := Lib.hid (by unfold cntShardS; simp only; rw [hL.out])
  clear hn hl
  go_enter Try.func36, Try.ntmps36
  go_wp2
  go_loopw [1, 5] (fun q i wr => ∃ j : Nat, j ≤ n ∧ i = .int .i64 j ∧ q = .int .i64 (k + (preCShard xs j : Int)) ∧ Below w.heap.size w wr) (fun _ i _ => n - (intOf i).toNat)
  case atStart => exact ⟨0, Nat.zero_le _, rfl, by unfold preCShard; simp, Below.refl _ _⟩
  case round =>
    obtain ⟨j, hj, rfl, rfl, hb⟩ := hrel
    by_cases hlt : j < n
    · obtain ⟨b, off, rfl, hbl, hc⟩ := gr.rowShard (by omega)
      obtain ⟨k0, k1, k2⟩ := hc j hlt
      have cb : ∀ o, wr.cell? ⟨b, o, none⟩ = w.cell? ⟨b, o, none⟩ := fun o => hb.cell (p := ⟨b, o, none⟩) hbl
      have hjx : j < xs.length := by rw [hL.out]; exact hlt
      have hjl : j < (stLShard k xs xs.length).length := by rw [stLShard_len]; exact hjx
      have hget : (stLShard k xs xs.length)[j]'hjl = markedShard (k + (preCShard xs j : Int)) (atShard xs j) := by rw [stLShard_get, if_pos hjx]
      rw [← cb, atShard_eq _ j hjl, hget] at k0 k1 k2
      have rdx := gi _ (List.getElem_mem hjl)
      rw [hget] at rdx
      have rdx2 := rdx.below hb (Nat.le_refl _)
      have hps := preCShard_succ xs j hjx
      have htop := preShard_top xs j hjx
      rw [hL.out] at htop
      have hcj := preCShard_bd xs j
      have hplj := preShard_le xs (n - j) j
      rw [show j + (n - j) = n from by omega] at hplj
      have HP := Lib.hid hps
      have hi1 : (j : Int) < (n : Int) := by omega
      clear hc cb gi gr hps hget rdx
      generalize atShard xs j = x at *
      obtain ⟨kk, hkk⟩ : ∃ kk : Int, kk = k + (preCShard xs j : Int) := ⟨_, rfl⟩
      rw [← hkk] at k0 k1 k2 rdx2 ⊢
      have hkk0 : 0 ≤ kk := by omega
      have hkk1 : kk ≤ 2305843009213690000 := by omega
      have HKK := Lib.hid hkk
      clear hkk
      have hxn : x.edgesN ≤ 1048576 := by unfold bulkShard at htop; omega
      unfold markedShard at k0 k1 k2 rdx2
      unfold slShard at rdx2
      try simp only at k0 k1 k2 rdx2
      have hfin : kk + 1 + 1 + 5 * (x.edgesN : Int) = k + (preCShard xs (j + 1) : Int) := by
        rw [HP.out, HKK.out]
        unfold stepShard cntShard
        omega
      have HFIN := Lib.hid hfin
      clear hfin
      go_wp2_with fail
      refine (heldSEdgeS_any _ _ _ (kk + 1 + 1) _ rdx2 (by omega) (by omega) (by omega)).mono ?_
      rintro e w2 ⟨rfl, hb2⟩
      have hb3 := hb.trans (hb2.mono hb.size)
      go_wp2
      go_roundw
      case rel => exact ⟨j + 1, by omega, by go_num, by rw [← HFIN.out] <;> go_num, hb3⟩
      case measure => simp [intOf]; omega
    · obtain rfl : j = n := by omega
      go_wp2
      go_ret
      exact ⟨by rw [HCN.out] <;> rfl, hb⟩
end Go.Proofs.Ythffmjeodoinlaa

/- Rows of integers as rows of one-cell elements (OwnS). Nothing of the program but the names. -/
namespace Go.Proofs.Ythffmjeodoinlaa
open Go.RowKit
theorem OwnI.toS {k : IntKind} {e : TypeId} {lo hi : Nat} {w : World} {a : Option Addr} {n cap : Nat} {zs : List Int} (h : OwnI k e lo hi w a n cap zs) : OwnS (encI k) 1 e lo hi w a n cap zs :=
  ⟨h.len, by rw [flat_encI]; exact h.own, h.lt, h.top, h.small⟩
theorem OwnS.toI {k : IntKind} {e : TypeId} {lo hi : Nat} {w : World} {a : Option Addr} {n cap : Nat} {zs : List Int} (h : OwnS (encI k) 1 e lo hi w a n cap zs) : OwnI k e lo hi w a n cap zs :=
  ⟨h.len, by rw [← flat_encI]; exact h.own, h.lt, h.top, h.small⟩
theorem toIntS_s (a : Option Addr) (n cap : Nat) (zs : List Int) (w : World) (h : Rd (encI .i64) 1 w a n cap zs) (hn : n ≤ 1048576) :
    Calls Try.prog 28 #[.slice a n cap] w fun e w' => ∃ g, e = .returned (.slice (some ⟨g, 0, none⟩) n n) ∧ OwnS (encI .i64) 1 3 w.heap.size w'.heap.size w' (some ⟨g, 0, none⟩) n n zs ∧ Below w.heap.size w w' :=
  (toIntS_any a n cap zs w h hn).mono fun _ _ ⟨g, h1, h2, h3⟩ => ⟨g, h1, h2.toS, h3⟩
theorem markIntS_s (a : Option Addr) (n cap : Nat) (zs : List Int) (k : Int) (lo hi : Nat) (w : World) (h : OwnS (encI .i64) 1 3 lo hi w a n cap zs) (_hn : n ≤ 1073741824) (hk0 : 0 ≤ k) (hk1 : k ≤ 2305843009213693952) :
    Calls Try.prog 34 #[.slice a n cap, .int .i64 k] w fun e w' => e = .returned (.int .i64 (k + n)) ∧ OwnS (encI .i64) 1 3 lo hi w' a n cap (mks asI k n) ∧ Win lo hi w w' :=
  (markIntS_any a n cap zs k lo hi w h.toI hk0 hk1).mono fun _ _ ⟨h1, h2, h3⟩ => ⟨h1, h2.toS, h3⟩
end Go.Proofs.Ythffmjeodoinlaa

/- The kind IntS: rows of Int. -/
namespace Go.Proofs.Ythffmjeodoinlaa
open Go.RowKit
def datIntS (y : Row Int) : List Int := y.l
def rdIntS (w : World) (y : Row Int) : Prop := Rd (encI .i64) 1 w y.a y.n y.c y.l
theorem rdIntS_below {w w' : World} {y : Row Int} (h : rdIntS w y) {B : Nat} (hb : Below B w w') (hB : w.heap.size ≤ B) : rdIntS w' y := Rd.below h hb hB
structure OwnIntS (lo hi : Nat) (w : World) (y : Row Int) : Prop where
  row : OwnS (encI .i64) 1 3 lo hi w y.a y.n y.c y.l
theorem OwnIntS.below {lo hi : Nat} {w w' : World} {y : Row Int} (h : OwnIntS lo hi w y) (hb : Below w.heap.size w w') : OwnIntS lo hi w' y := ⟨h.row.below hb⟩
theorem OwnIntS.win {lo hi lo' hi' : Nat} {w w' : World} {y : Row Int} (h : OwnIntS lo hi w y) (hw : Win lo' hi' w w') (hd : hi' ≤ lo ∨ hi ≤ lo') : OwnIntS lo hi w' y := ⟨h.row.win hw hd⟩
theorem OwnIntS.lo_le {lo hi lo' : Nat} {w : World} {y : Row Int} (h : OwnIntS lo hi w y) (hl : lo' ≤ lo) : OwnIntS lo' hi w y := ⟨h.row.lo_le hl⟩
theorem OwnIntS.rd {lo hi : Nat} {w : World} {y : Row Int} (h : OwnIntS lo hi w y) : rdIntS w y := h.row.rd (fun _ => rfl)
def bulkIntS (y : Row Int) : Nat := y.n
def cntIntS (y : Row Int) : Nat := y.n
theorem cntIntS_le {y : Row Int} {b : Nat} (h : bulkIntS y ≤ b) : cntIntS y ≤ 1000 * b := by unfold bulkIntS at h; unfold cntIntS; omega
theorem cntIntS_own {lo hi : Nat} {w : World} {y : Row Int} {b : Nat} (_h : OwnIntS lo hi w y) (hb : bulkIntS y ≤ b) : cntIntS y ≤ 1000 * b := cntIntS_le hb
def HeldIntS (k : Int) (w : World) (y : Row Int) : Prop := y.n ≤ 1048576 ∧ Rd (encI .i64) 1 w y.a y.n y.c (mks asI k y.n)
theorem HeldIntS.below {k : Int} {w w' : World} {y : Row Int} (h : HeldIntS k w y) (hb : Below w.heap.size w w') : HeldIntS k w' y := ⟨h.1, h.2.below hb (Nat.le_refl _)⟩
theorem toIntS_k (y : Row Int) (w : World) (g : rdIntS w y) (hn : bulkIntS y ≤ 1048576) :
    Calls Try.prog 28 #[.slice y.a y.n y.c] w fun e w' => ∃ y' : Row Int, e = .returned (.slice y'.a y'.n y'.c) ∧ datIntS y' = datIntS y ∧ OwnIntS w.heap.size w'.heap.size w' y' ∧ bulkIntS y' = bulkIntS y ∧ Below w.heap.size w w' :=
  (toIntS_s y.a y.n y.c y.l w g hn).mono fun _ _ ⟨g, h1, h2, h3⟩ => ⟨⟨some ⟨g, 0, none⟩, y.n, y.n, y.l⟩, h1, rfl, ⟨h2⟩, rfl, h3⟩
theorem eqIntS_k (x y : Row Int) (D D' : List Int) (hD : datIntS x = D) (hD' : datIntS y = D') (w : World) (h : rdIntS w x) (h' : rdIntS w y) :
    Calls Try.prog 32 #[.slice x.a x.n x.c, .slice y.a y.n y.c] w fun e w' => e = .returned (.bool (decide (D = D'))) ∧ Below w.heap.size w w' := by
  subst hD
  subst hD'
  exact eqIntS_any _ _ _ _ _ _ _ _ w h h'
theorem markIntS_k (y : Row Int) (k : Int) (lo hi : Nat) (w : World) (h : OwnIntS lo hi w y) (hn : bulkIntS y ≤ 1048576) (hk0 : 0 ≤ k) (hk1 : k ≤ 2305843009213693952) :
    Calls Try.prog 34 #[.slice y.a y.n y.c, .int .i64 k] w fun e w' => e = .returned (.int .i64 (k + cntIntS y)) ∧ HeldIntS k w' y ∧ Win lo hi w w' := by
  have hn' : y.n ≤ 1048576 := hn
  refine (markIntS_s _ _ _ _ _ _ _ _ h.row (by omega) hk0 hk1).mono ?_
  rintro e w' ⟨rfl, ho, hw⟩
  exact ⟨ret_i (by unfold cntIntS; omega), ⟨hn', ho.rd (fun _ => rfl)⟩, hw⟩
end Go.Proofs.Ythffmjeodoinlaa

/- The kind Graph. -/
namespace Go.Proofs.Ythffmjeodoinlaa
open Go.RowKit
def rdGraph (w : World) (y : GraphR) : Prop := Rd encEdge 3 w y.edgesA y.edgesN y.edgesC y.edges
theorem rdGraph_below {w w' : World} {y : GraphR} (h : rdGraph w y) {B : Nat} (hb : Below B w w') (hB : w.heap.size ≤ B) : rdGraph w' y := Rd.below h hb hB
theorem OwnGraph.rd {lo hi : Nat} {w : World} {y : GraphR} (h : OwnGraph lo hi w y) : rdGraph w y := h.row.rd lenEdge

def cntGraph (y : GraphR) : Nat := 3 * y.edgesN
theorem cntGraph_le {y : GraphR} {b : Nat} (h : bulkGraph y ≤ b) : cntGraph y ≤ 1000 * b := by unfold bulkGraph at h; unfold cntGraph; omega
theorem cntGraph_own {lo hi : Nat} {w : World} {y : GraphR} {b : Nat} (_h : OwnGraph lo hi w y) (hb : bulkGraph y ≤ b) : cntGraph y ≤ 1000 * b := cntGraph_le hb
def HeldGraph (k : Int) (w : World) (y : GraphR) : Prop := y.edgesN ≤ 1048576 ∧ Rd encEdge 3 w y.edgesA y.edgesN y.edgesC (mksEdge k y.edgesN)
theorem HeldGraph.below {k : Int} {w w' : World} {y : GraphR} (h : HeldGraph k w y) (hb : Below w.heap.size w w') : HeldGraph k w' y := ⟨h.1, h.2.below hb (Nat.le_refl _)⟩
theorem goodGraph_rd {w : World} {y : GraphR} (g : goodGraph w y) : rdGraph w y := g.2.1
theorem markGraph_k (y : GraphR) (k : Int) (lo hi : Nat) (w : World) (h : OwnGraph lo hi w y) (hn : bulkGraph y ≤ 1048576) (hk0 : 0 ≤ k) (hk1 : k ≤ 2305843009213693952) :
    Calls Try.prog 33 #[.agg #[.int .i64 y.n, .slice y.edgesA y.edgesN y.edgesC], .int .i64 k] w fun e w' => e = .returned (.int .i64 (k + cntGraph y)) ∧ HeldGraph k w' y ∧ Win lo hi w w' := by
  have hn' : y.edgesN ≤ 1048576 := by unfold bulkGraph at hn; omega
  refine (markGraph_u y k lo hi w h hn' hk0 hk1).mono ?_
  rintro e w' ⟨rfl, ho, hw⟩
  exact ⟨ret_i (by unfold cntGraph; omega), ⟨hn', ho.rd lenEdge⟩, hw⟩
end Go.Proofs.Ythffmjeodoinlaa

/- Two closed facts on the program that each row's step uses. -/
namespace Go.Proofs.Ythffmjeodoinlaa
theorem own : ownKnob Try.prog.godebug = none := by kernel_rfl
theorem laidOut : laidOutB Try.prog = true := by kernel_rfl
end Go.Proofs.Ythffmjeodoinlaa
