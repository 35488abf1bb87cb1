/- FrameBytes of the program and of the reference: what they compute. -/
import Derived.Test.YtkgalkaafocnjaaFrameOk
import Derived.Test.YtkgalkaafocnjaaFrameU
import Derived.Test.YtkgalkaafocnjaaPutFix
import Derived.Test.YtkgalkaafocnjaaCrc
namespace Go.Proofs.Ytkgalkaafocnjaa
open Go.RowKit
def headF (k : Int) (n : Nat) : List Int := [71, k] ++ fdig n
def frameL (k : Int) (d : List Int) : List Int := headF k d.length ++ fdig (crcN (headF k d.length)) ++ fdig (crcN d) ++ d
def frameBytesF (k : Int) (d : List Int) : List Int × Bool := if frameOkB k d.length then (frameL k d, true) else ([], false)
theorem frameBytesF_yes {k : Int} {d : List Int} (h : frameOkB k d.length = true) : frameBytesF k d = (frameL k d, true) := if_pos h
theorem frameBytesF_no {k : Int} {d : List Int} (h : frameOkB k d.length = false) : frameBytesF k d = ([], false) := by unfold frameBytesF; rw [if_neg (by rw [h]; simp)]
theorem frameOkB_of {k : Int} {n : Nat} (h : frameOkB k n = true) : 1 ≤ k ∧ k ≤ 3 ∧ n ≤ 60000 := by
  unfold frameOkB kindB at h
  simp at h
  omega
theorem headF_in8 {k : Int} (h1 : 1 ≤ k) (h3 : k ≤ 3) (n : Nat) : ∀ y ∈ headF k n, In8 y := by
  intro y hy
  unfold headF at hy
  rcases List.mem_append.1 hy with hy | hy
  · simp at hy
    unfold In8
    omega
  · exact fdig_in8 n y hy
theorem headF_len (k : Int) (n : Nat) : (headF k n).length = 8 := by unfold headF; rw [List.length_append, fdig_len]; rfl

set_option maxRecDepth 100000 in
set_option maxHeartbeats 1600000 in
theorem frameBytes_impl (k : Int) (a : Option Addr) (n cap : Nat) (d : List Int) (w : World) (h : Rd (encI .u8) 1 w a n cap d) (g0 : ∀ y ∈ d, In8 y) :
    Calls Try.prog 34 #[.agg #[.int .i64 k, .slice a n cap]] w fun e w' => RetB .u8 5 (frameBytesF k d) w e w' := by
  obtain ⟨i0, hi, hz0, hz1, hz2⟩ := info_parts infoByteS
  have hL := Lib.hid h.len
  have hb0 := (Below.refl w.heap.size w).alloc (Nat.le_refl _) (.cells #[.int .i64 k, .slice a n cap] 43)
  cases ho : frameOkB k n with
  | false =>
    have HO := Lib.hid ho
    clear ho
    have HF := Lib.hid (frameBytesF_no (k := k) (d := d) (by rw [hL.out]; exact HO.out))
    go_enter Try.func34, Try.ntmps34
    go_wp2_with fail
    refine (frameOk_impl _ _ _ _ _).mono ?_
    rintro e w1 ⟨rfl, hb1⟩
    rw [HO.out]
    go_wp2
    go_ret2
    rw [HF.out]
    exact ⟨none, 0, 0, rfl, OwnI.nil _ _ _ _, hb0.trans (hb1.mono (by simp))⟩
  | true =>
    obtain ⟨hk1, hk3, hn⟩ := frameOkB_of ho
    have HO := Lib.hid ho
    clear ho
    have HF := Lib.hid (frameBytesF_yes (k := k) (d := d) (by rw [hL.out]; exact HO.out))
    go_enter Try.func34, Try.ntmps34
    go_wp2_with fail
    refine (frameOk_impl _ _ _ _ _).mono ?_
    rintro e w1 ⟨rfl, hb1⟩
    rw [HO.out]
    have BB1 := hb0.trans (hb1.mono (by simp))
    have hz1' : w.heap.size + 1 ≤ w1.heap.size := by have := hb1.size; simpa using this
    obtain ⟨hc1, hf1⟩ := bcell hb1
    have c0 : w1.cell? ⟨w.heap.size, 0, none⟩ = some (.int .i64 k) := by rw [hc1 _ _ (by simp)]; simp [go_sem]
    have c1 : w1.cell? ⟨w.heap.size, 1, none⟩ = some (.slice a n cap) := by rw [hc1 _ _ (by simp)]; simp [go_sem]
    clear hc1 hf1
    have hlt : w.heap.size < w1.heap.size := hz1'
    have hb1a : Below (w.heap.size + 1) w1 (w1.alloc (.cells #[.int .u8 71, .int .u8 k] 5)) := (Below.refl _ w1).alloc hz1' _
    have c1a : (w1.alloc (.cells #[.int .u8 71, .int .u8 k] 5)).cell? ⟨w.heap.size, 1, none⟩ = some (.slice a n cap) := (hb1a.cell (p := ⟨w.heap.size, 1, none⟩) (Nat.lt_succ_self _)).trans c1
    go_wp2_with fail
    refine (putFix_any _ 2 2 [71, k] n (w.heap.size + 1) _ (own_base (World.ownsRow_lit w1 #[.int .u8 71, .int .u8 k] 2 (Nat.le_refl _) (by unfold maxLen; omega) rfl) hz1') rfl (by simp; omega) (by omega) (by omega)).mono ?_
    rintro e w2 ⟨a2, c2, rfl, ho2, hb2⟩
    have e2 : [71, k] ++ fdig n = headF k n := rfl
    rw [e2] at ho2
    have hB2 := hb1a.trans hb2
    have hs2 := hB2.size
    have c12 : w2.cell? ⟨w.heap.size, 1, none⟩ = some (.slice a n cap) := (hB2.cell (p := ⟨w.heap.size, 1, none⟩) (Nat.lt_succ_self _)).trans c1
    clear c0 c1 c1a
    have h8 := headF_in8 hk1 hk3 n
    go_wp2_with fail
    refine (crc_impl _ _ _ (headF k n) _ (Rd.of_ints ho2 (headF_len k n)) h8).mono ?_
    rintro e w3 ⟨rfl, hb3⟩
    have ho3 := own_below ho2 hb3 (Nat.le_refl _)
    have hB3 := hB2.trans (hb3.mono (by omega))
    have hs3 := hB3.size
    have c13 := cell_later hb3 c12
    have hcr := crcN_le (headF k n)
    go_wp2_with fail
    refine (putFix_any _ 8 _ (headF k n) (crcN (headF k n)) (w.heap.size + 1) _ ho3 (headF_len k n) (by omega) (by omega) (by omega)).mono ?_
    rintro e w4 ⟨a4, c4, rfl, ho4, hb4⟩
    have hB4 := hB3.trans hb4
    have hs4 := hB4.size
    have c14 : w4.cell? ⟨w.heap.size, 1, none⟩ = some (.slice a n cap) := (hb4.cell (p := ⟨w.heap.size, 1, none⟩) (Nat.lt_succ_self _)).trans c13
    have BB4 : Below w.heap.size w w4 := BB1.trans (hB4.mono (by omega))
    clear c12 c13
    go_wp2_with fail
    refine (crc_impl _ _ _ d _ (h.below BB4 (Nat.le_refl _)) g0).mono ?_
    rintro e w5 ⟨rfl, hb5⟩
    have ho5 := own_below ho4 hb5 (Nat.le_refl _)
    have hB5 := hB4.trans (hb5.mono (by omega))
    have hs5 := hB5.size
    have c15 := cell_later hb5 c14
    have hcd := crcN_le d
    go_wp2_with fail
    refine (putFix_any _ 14 _ _ (crcN d) (w.heap.size + 1) _ ho5 (by rw [List.length_append, headF_len, fdig_len]) (by omega) (by omega) (by omega)).mono ?_
    rintro e w6 ⟨a6, c6, rfl, ho6, hb6⟩
    have hB6 := hB5.trans hb6
    have hs6 := hB6.size
    have c16 : w6.cell? ⟨w.heap.size, 1, none⟩ = some (.slice a n cap) := (hb6.cell (p := ⟨w.heap.size, 1, none⟩) (Nat.lt_succ_self _)).trans c15
    have BB6 : Below w.heap.size w w6 := BB1.trans (hB6.mono (by omega))
    clear c14 c15
    have HRD := h.below BB6 (Nat.le_refl _)
    have HC := Lib.hid HRD.news
    have HN := Lib.hid HRD.none
    obtain ⟨XS, hXS⟩ : ∃ XS, XS = ((headF k n ++ fdig (crcN (headF k n))) ++ fdig (crcN d)).map (Value.int .u8) := ⟨_, rfl⟩
    rw [← hXS] at ho6
    have HXS := Lib.hid hXS
    clear hXS
    go_wp2_with (at_builtin; refine app_any rfl _ _ 22 rfl (w.heap.size + 1) 5 Try.underlying22 hi hz0 hz1 hz2 rfl (by decide) a6 20 c6 XS rfl ho6 a n cap (d.map (.int .u8)) rfl ?c0 ?c1 ?c2 ?c3 ?c4 ?c5 ?c6 ?_)
    case c0 => rw [List.length_map, hL.out, Nat.mul_one]
    case c1 => exact HC.out
    case c2 => exact HN.out
    case c3 => exact ints_oneCell _ _
    case c4 => unfold maxLen; omega
    case c5 => omega
    case c6 => omega
    intro A C w7 ho7 hb7
    go_wp2
    go_ret2
    rw [HF.out]
    have e7 : XS ++ d.map (Value.int .u8) = (frameL k d).map (Value.int .u8) := by
      rw [HXS.out, ← List.map_append]; unfold frameL; rw [hL.out]
    rw [e7] at ho7
    have hlf : (frameL k d).length = 20 + n := by unfold frameL; simp only [List.length_append, headF_len, fdig_len, hL.out]
    exact ⟨A, 20 + n, C, rfl, (OwnI.of ho7 hlf (by omega)).lo_le (by omega), BB6.trans (hb7.mono (by omega))⟩

theorem frameL_in8 {k : Int} (h1 : 1 ≤ k) (h3 : k ≤ 3) {d : List Int} (g0 : ∀ y ∈ d, In8 y) : ∀ y ∈ frameL k d, In8 y := by
  intro y hy
  unfold frameL at hy
  rcases List.mem_append.1 hy with hy | hy
  · rcases List.mem_append.1 hy with hy | hy
    · rcases List.mem_append.1 hy with hy | hy
      · exact headF_in8 h1 h3 _ y hy
      · exact fdig_in8 _ y hy
    · exact fdig_in8 _ y hy
  · exact g0 y hy
theorem in8_app {xs ys : List Int} (h1 : ∀ y ∈ xs, In8 y) (h2 : ∀ y ∈ ys, In8 y) : ∀ y ∈ xs ++ ys, In8 y := fun y hy => (List.mem_append.1 hy).elim (h1 y) (h2 y)
theorem putFix_yes {zs : List Int} {m : Nat} (h : m ≤ 281474976710655) : putFixF zs (m : Int) = (zs ++ fdig m, true) := by
  rw [putFixF_yes zs (numB_true (by omega) (by omega)), Int.toNat_natCast]

set_option maxRecDepth 100000 in
set_option maxHeartbeats 1600000 in
theorem frameBytes_spec (k : Int) (a : Option Addr) (n cap : Nat) (d : List Int) (w : World) (h : Rd (encI .u8) 1 w a n cap d) (g0 : ∀ y ∈ d, In8 y) :
    Calls Try.prog 32 #[.agg #[.int .i64 k, .slice a n cap]] w fun e w' => RetB .u8 5 (frameBytesF k d) w e w' := by
  obtain ⟨i0, hi, hz0, hz1, hz2⟩ := info_parts infoByteS
  have hL := Lib.hid h.len
  have hb0 := (Below.refl w.heap.size w).alloc (Nat.le_refl _) (.cells #[.int .i64 k, .slice a n cap] 43)
  cases ho : frameOkB k n with
  | false =>
    have HO := Lib.hid ho
    clear ho
    have HF := Lib.hid (frameBytesF_no (k := k) (d := d) (by rw [hL.out]; exact HO.out))
    go_enter Try.func32, Try.ntmps32
    go_wp2_with fail
    refine (frameOk_spec _ _ _ _ _).mono ?_
    rintro e w1 ⟨rfl, hb1⟩
    rw [HO.out]
    go_wp2
    go_ret2
    rw [HF.out]
    exact ⟨none, 0, 0, rfl, OwnI.nil _ _ _ _, hb0.trans (hb1.mono (by simp))⟩
  | true =>
    obtain ⟨hk1, hk3, hn⟩ := frameOkB_of ho
    have HO := Lib.hid ho
    clear ho
    have HF := Lib.hid (frameBytesF_yes (k := k) (d := d) (by rw [hL.out]; exact HO.out))
    go_enter Try.func32, Try.ntmps32
    go_wp2_with fail
    refine (frameOk_spec _ _ _ _ _).mono ?_
    rintro e w1 ⟨rfl, hb1⟩
    rw [HO.out]
    have BB1 := hb0.trans (hb1.mono (by simp))
    have hz1' : w.heap.size + 1 ≤ w1.heap.size := by have := hb1.size; simpa using this
    obtain ⟨hc1, hf1⟩ := bcell hb1
    have c0 : w1.cell? ⟨w.heap.size, 0, none⟩ = some (.int .i64 k) := by rw [hc1 _ _ (by simp)]; simp [go_sem]
    have c1 : w1.cell? ⟨w.heap.size, 1, none⟩ = some (.slice a n cap) := by rw [hc1 _ _ (by simp)]; simp [go_sem]
    clear hc1 hf1
    have hlt : w.heap.size < w1.heap.size := hz1'
    have hb1a : Below (w.heap.size + 1) w1 (w1.alloc (.cells #[.int .u8 71, .int .u8 k] 5)) := (Below.refl _ w1).alloc hz1' _
    have hs1a := hb1a.size
    have c1a : (w1.alloc (.cells #[.int .u8 71, .int .u8 k] 5)).cell? ⟨w.heap.size, 1, none⟩ = some (.slice a n cap) := (hb1a.cell (p := ⟨w.heap.size, 1, none⟩) (Nat.lt_succ_self _)).trans c1
    have h71 : ∀ y ∈ [71, k], In8 y := by intro y hy; simp at hy; unfold In8; omega
    have HP1 := Lib.hid (putFix_yes (zs := [71, k]) (m := n) (by omega))
    go_wp2_with fail
    refine (PutFix_spec _ 2 2 [71, k] (n : Int) _ (OwnI.of (zs := [71, k]) (World.ownsRow_lit (base := w.heap.size + 1) w1 #[.int .u8 71, .int .u8 k] 2 hz1' (by unfold maxLen; omega) rfl) rfl (by omega)).rd h71 (by unfold In64; omega) (by omega)).mono ?_
    rintro e w2 ⟨a2, n2, c2, rfl, ho2, hb2⟩
    rw [HP1.out] at ho2 ⊢
    have e2 : [71, k] ++ fdig n = headF k n := rfl
    simp only [e2] at ho2
    have hB2 := hb1a.trans (hb2.mono (by omega))
    have hs2 := hB2.size
    have c12 : w2.cell? ⟨w.heap.size, 1, none⟩ = some (.slice a n cap) := cell_later hb2 c1a
    clear c0 c1 c1a
    have h8 := headF_in8 hk1 hk3 n
    go_wp2_with fail
    refine (crc_spec _ _ _ (headF k n) _ ho2.rd h8).mono ?_
    rintro e w3 ⟨rfl, hb3⟩
    have ho3 := ho2.below hb3
    have hB3 := hB2.trans (hb3.mono (by omega))
    have hs3 := hB3.size
    have c13 := cell_later hb3 c12
    have hcr := crcN_le (headF k n)
    have HP2 := Lib.hid (putFix_yes (zs := headF k n) (m := crcN (headF k n)) (by omega))
    have hn2 : n2 ≤ 1099511627775 := by have := ho2.len; rw [headF_len] at this; omega
    go_wp2_with fail
    refine (PutFix_spec _ _ _ (headF k n) _ _ ho3.rd h8 (by unfold In64; omega) hn2).mono ?_
    rintro e w4 ⟨a4, n4, c4, rfl, ho4, hb4⟩
    rw [HP2.out] at ho4 ⊢
    have hB4 := hB3.trans (hb4.mono (by omega))
    have hs4 := hB4.size
    have c14 := cell_later hb4 c13
    have BB4 : Below w.heap.size w w4 := BB1.trans (hB4.mono (by omega))
    clear c12 c13
    go_wp2_with fail
    refine (crc_spec _ _ _ d _ (h.below BB4 (Nat.le_refl _)) g0).mono ?_
    rintro e w5 ⟨rfl, hb5⟩
    have ho5 := ho4.below hb5
    have hB5 := hB4.trans (hb5.mono (by omega))
    have hs5 := hB5.size
    have c15 := cell_later hb5 c14
    have hcd := crcN_le d
    have HP3 := Lib.hid (putFix_yes (zs := headF k n ++ fdig (crcN (headF k n))) (m := crcN d) (by omega))
    have hn4 : n4 ≤ 1099511627775 := by have := ho4.len; simp only [List.length_append, headF_len, fdig_len] at this; omega
    go_wp2_with fail
    refine (PutFix_spec _ _ _ _ _ _ ho5.rd (in8_app h8 (fdig_in8 _)) (by unfold In64; omega) hn4).mono ?_
    rintro e w6 ⟨a6, n6, c6, rfl, ho6, hb6⟩
    rw [HP3.out] at ho6 ⊢
    have hB6 := hB5.trans (hb6.mono (by omega))
    have hs6 := hB6.size
    have c16 := cell_later hb6 c15
    have BB6 : Below w.heap.size w w6 := BB1.trans (hB6.mono (by omega))
    clear c14 c15
    have HRD := h.below BB6 (Nat.le_refl _)
    have HC := Lib.hid HRD.news
    have HN := Lib.hid HRD.none
    have hn6 : n6 ≤ 20 := by have := ho6.len; simp only [List.length_append, headF_len, fdig_len] at this; omega
    have HO6 := Lib.hid ho6
    have how := ho6.own
    obtain ⟨XS, hXS⟩ : ∃ XS, XS = ((headF k n ++ fdig (crcN (headF k n))) ++ fdig (crcN d)).map (Value.int .u8) := ⟨_, rfl⟩
    simp only at how
    rw [← hXS] at how
    have HXS := Lib.hid hXS
    clear hXS ho6
    have hw5 : w.heap.size ≤ w5.heap.size := by omega
    go_wp2_with (at_builtin; refine app_any rfl _ _ 22 rfl w.heap.size 5 Try.underlying22 hi hz0 hz1 hz2 rfl (by decide) a6 n6 c6 XS rfl (own_base how hw5) a n cap (d.map (.int .u8)) rfl ?c0 ?c1 ?c2 ?c3 ?c4 ?c5 ?c6 ?_)
    case c0 => rw [List.length_map, hL.out, Nat.mul_one]
    case c1 => exact HC.out
    case c2 => exact HN.out
    case c3 => exact ints_oneCell _ _
    case c4 => unfold maxLen; omega
    case c5 => omega
    case c6 => omega
    intro A C w7 ho7 hb7
    go_wp2
    go_ret2
    rw [HF.out]
    have e7 : XS ++ d.map (Value.int .u8) = (frameL k d).map (Value.int .u8) := by
      rw [HXS.out, ← List.map_append]; unfold frameL; rw [hL.out]
    rw [e7] at ho7
    have hlf : (frameL k d).length = n6 + n := by
      have := HO6.out.len
      unfold frameL; simp only [List.length_append, headF_len, fdig_len, hL.out] at this ⊢; omega
    exact ⟨A, n6 + n, C, rfl, OwnI.of ho7 hlf (by omega), BB6.trans hb7⟩

def frameBytesD (D : Int × List Int) : List Int × Bool := frameBytesF D.1 D.2
theorem frameBytes_impl_u (y : FrameR) (D : Int × List Int) (hD : datFrame y = D) (w : World) (g : goodFrame w y) :
    Calls Try.prog 34 #[.agg #[.int .i64 y.kind, .slice y.dataA y.dataN y.dataC]] w fun e w' => RetB .u8 5 (frameBytesD D) w e w' := by
  subst hD
  exact frameBytes_impl y.kind y.dataA y.dataN y.dataC y.data w g.2.1 g.2.2
theorem frameBytes_spec_u (y : FrameR) (D : Int × List Int) (hD : datFrame y = D) (w : World) (g : goodFrame w y) :
    Calls Try.prog 32 #[.agg #[.int .i64 y.kind, .slice y.dataA y.dataN y.dataC]] w fun e w' => RetB .u8 5 (frameBytesD D) w e w' := by
  subst hD
  exact frameBytes_spec y.kind y.dataA y.dataN y.dataC y.data w g.2.1 g.2.2
end Go.Proofs.Ytkgalkaafocnjaa
