/- ListBytes of the program and of the reference: what they compute. -/
import Derived.Test.YtkgalkaafocnjaaPutFix
import Derived.Test.YtkgalkaafocnjaaIntS
namespace Go.Proofs.Ytkgalkaafocnjaa
open Go.RowKit
def fd (x : Int) : List Int := fdig x.toNat
theorem fd_len (x : Int) : (fd x).length = 6 := fdig_len _
def packL (zs : List Int) : List Int := zs.flatMap fd
theorem packL_len : ∀ zs, (packL zs).length = 6 * zs.length
  | [] => rfl
  | z :: r => by have := packL_len r; unfold packL at *; rw [List.flatMap_cons, List.length_append, fd_len, this, List.length_cons]; omega
theorem take_snocZ (zs : List Int) (k : Nat) (h : k < zs.length) : zs.take (k + 1) = zs.take k ++ [zs.getD k 0] := by
  rw [List.take_succ_eq_append_getElem h]; simp [List.getD, h]
theorem packL_snoc (zs : List Int) (k : Nat) (h : k < zs.length) : packL (zs.take (k + 1)) = packL (zs.take k) ++ fd (zs.getD k 0) := by
  rw [take_snocZ zs k h]; simp [packL]
theorem all_snocZ (zs : List Int) (k : Nat) (h : k < zs.length) (ha : (zs.take k).all numB = true) (hk : numB (zs.getD k 0) = true) : (zs.take (k + 1)).all numB = true := by
  rw [take_snocZ zs k h, List.all_append, ha]; simp only [List.all_cons, List.all_nil, hk]; rfl
theorem all_notZ (zs : List Int) (k : Nat) (h : k < zs.length) (hk : numB (zs.getD k 0) = false) : zs.all numB = false := by
  rw [List.all_eq_false]
  exact ⟨zs[k], List.getElem_mem h, by simp [List.getD, h] at hk; simp [hk]⟩
theorem numB_of {x : Int} (h : numB x = true) : 0 ≤ x ∧ x ≤ 281474976710655 := by
  unfold numB at h; simpa using h
def listBytesF (zs : List Int) : List Int × Bool := if zs.length ≤ 400 ∧ zs.all numB = true then (vdig zs.length ++ packL zs, true) else ([], false)
theorem listBytesF_long {zs : List Int} (h : ¬ zs.length ≤ 400) : listBytesF zs = ([], false) := by unfold listBytesF; rw [if_neg (fun hh => h hh.1)]
theorem listBytesF_bad {zs : List Int} (h : zs.all numB = false) : listBytesF zs = ([], false) := by unfold listBytesF; rw [if_neg (fun hh => by rw [h] at hh; cases hh.2)]
theorem listBytesF_good {zs : List Int} (h : zs.length ≤ 400) (ha : zs.all numB = true) : listBytesF zs = (vdig zs.length ++ packL zs, true) := by unfold listBytesF; rw [if_pos ⟨h, ha⟩]

set_option maxRecDepth 100000 in
set_option maxHeartbeats 1600000 in
theorem listBytes_impl (a : Option Addr) (n cap : Nat) (zs : List Int) (w : World) (h : Rd (encI .i64) 1 w a n cap zs) (_g0 : ∀ y ∈ zs, In64 y) :
    Calls Try.prog 25 #[.slice a n cap] w fun e w' => RetB .u8 5 (listBytesF zs) w e w' := by
  have hL := Lib.hid h.len
  by_cases hn : n ≤ 400
  · go_enter Try.func25, Try.ntmps25
    go_wp2_with fail
    refine (putVar_any none 0 0 [] n w.heap.size _ (World.ownsRow_nil _ _ _ _) rfl (Nat.le_refl _) (by omega) (by omega)).mono ?_
    rintro e w1 ⟨a1, n1, c1, rfl, ho1, hn1, hb1⟩
    rw [List.nil_append] at ho1
    have hv := vdig_len9 (n := n) (by omega)
    have HN1 := Lib.hid hn1
    clear hn1
    go_wp2
    go_loopw [4, 15] (fun v i wr => ∃ (k : Nat) (a' : Option Addr) (n' c' : Nat), k ≤ n ∧ i = .int .i64 k ∧ v = .slice a' n' c' ∧ wr.ownsRow w.heap.size 5 1 (.slice a' n' c') n' ((vdig n ++ packL (zs.take k)).map (.int .u8)) ∧ Hid ((vdig n ++ packL (zs.take k)).length = n') ∧ Hid ((zs.take k).all numB = true) ∧ Below w.heap.size w wr) (fun _ i _ => n - (intOf i).toNat)
    case atStart => exact ⟨0, a1, n1, c1, Nat.zero_le _, rfl, rfl, by simpa [packL] using ho1, by show _ = _; rw [HN1.out]; simp [packL], rfl, hb1⟩
    case round =>
      obtain ⟨k, a', n', c', hk, rfl, rfl, ho, hln, hall, hb⟩ := hrel
      clear ho1
      have hbz := hb.size
      have hn6 : n' ≤ 9 + 6 * n := by
        have := hln.out
        rw [List.length_append, packL_len, List.length_take] at this
        omega
      by_cases hlt : k < n
      · obtain ⟨b1, off1, rfl, hbl1, hc1⟩ := h.ints (by omega)
        have hcell1 : wr.cell? ⟨b1, off1 + k, none⟩ = some (.int .i64 (zs[k]?.getD 0)) := (hb.cell (p := ⟨b1, off1 + k, none⟩) hbl1).trans (by simpa [List.getD] using hc1 k hlt)
        have hki : (k : Int) < (n : Int) := by omega
        have HS := Lib.hid (packL_snoc zs k (by rw [hL.out]; exact hlt))
        obtain ⟨X, hX⟩ : ∃ X, X = zs[k]?.getD 0 := ⟨_, rfl⟩
        rw [← hX] at hcell1
        have HX := Lib.hid (show zs.getD k 0 = X from by rw [hX]; simp [List.getD])
        clear hX hc1 h
        cases hnb : numB X with
        | false =>
          have HNB := Lib.hid hnb
          clear hnb
          have HF := Lib.hid (listBytesF_bad (all_notZ zs k (by rw [hL.out]; exact hlt) (by rw [HX.out]; exact HNB.out)))
          go_wp2_with fail
          refine (isNumber_any _ _).mono ?_
          rintro e w' ⟨rfl, rfl⟩
          rw [HNB.out]
          go_wp2
          go_ret2
          rw [HF.out]
          exact ⟨none, 0, 0, rfl, (OwnI.nil _ _ _ _), hb⟩
        | true =>
          have HNB := Lib.hid hnb
          obtain ⟨hx0, hx1⟩ := numB_of hnb
          clear hnb
          obtain ⟨Y, rfl⟩ := Int.eq_ofNat_of_zero_le hx0
          go_wp2_with fail
          refine (isNumber_any _ _).mono ?_
          rintro e w' ⟨rfl, rfl⟩
          rw [HNB.out]
          go_wp2_with fail
          refine (putFix_any a' n' c' _ Y w.heap.size _ ho hln.out hbz (by omega) (by omega)).mono ?_
          rintro e w2 ⟨a2, c2, rfl, ho2, hb2⟩
          go_wp2
          go_roundw
          case rel =>
            have e2 : vdig n ++ packL (zs.take k) ++ fdig Y = vdig n ++ packL (zs.take (k + 1)) := by
              rw [HS.out, HX.out, List.append_assoc]; rfl
            refine ⟨k + 1, a2, n' + 6, c2, by omega, by go_num, rfl, ?_, ?_, all_snocZ zs k (by rw [hL.out]; exact hlt) hall.out (by rw [HX.out]; exact HNB.out), hb.trans hb2⟩
            · rw [← e2]; exact ho2
            · show _ = _
              rw [← e2, List.length_append, hln.out, fdig_len]
          case measure => simp [intOf]; omega
      · obtain rfl : k = n := by omega
        have HT := Lib.hid (show zs.take k = zs from List.take_of_length_le (by rw [hL.out]; exact Nat.le_refl _))
        rw [HT.out] at ho hln hall
        have HF := Lib.hid (listBytesF_good (zs := zs) (by rw [hL.out]; exact hn) hall.out)
        go_wp2
        go_ret2
        rw [HF.out, hL.out]
        exact ⟨a', n', c', rfl, OwnI.of ho hln.out (by omega), hb⟩
  · have HF := Lib.hid (listBytesF_long (zs := zs) (by rw [hL.out]; exact hn))
    go_enter Try.func25, Try.ntmps25
    go_wp2
    go_ret2
    rw [HF.out]
    exact ⟨none, 0, 0, rfl, OwnI.nil _ _ _ _, Below.refl _ _⟩

set_option maxRecDepth 100000 in
set_option maxHeartbeats 1600000 in
theorem listBytes_spec (a : Option Addr) (n cap : Nat) (zs : List Int) (w : World) (h : Rd (encI .i64) 1 w a n cap zs) (g0 : ∀ y ∈ zs, In64 y) :
    Calls Try.prog 23 #[.slice a n cap] w fun e w' => RetB .u8 5 (listBytesF zs) w e w' := by
  have hL := Lib.hid h.len
  by_cases hn : n ≤ 400
  · have HP := Lib.hid (putVarF_yes [] (numB_true (n := (n : Int)) (by omega) (by omega)))
    go_enter Try.func23, Try.ntmps23
    go_wp2_with fail
    refine (PutVar_spec none 0 0 [] (n : Int) _ ⟨Nat.le_refl _, by unfold maxLen; omega, rfl, fun _ => rfl, fun hh => absurd hh (Nat.lt_irrefl 0)⟩ (fun y hy => by simp at hy) (by unfold In64; omega) (by omega)).mono ?_
    rintro e w1 ⟨a1, n1, c1, rfl, ho1, hb1⟩
    rw [HP.out] at ho1 ⊢
    simp only [List.nil_append, Int.toNat_natCast] at ho1
    have hv := vdig_len9 (n := n) (by omega)
    have HO := Lib.hid ho1
    clear ho1
    go_wp2
    go_loopw [4, 21] (fun v i wr => ∃ (k : Nat) (a' : Option Addr) (n' c' : Nat), k ≤ n ∧ i = .int .i64 k ∧ v = .slice a' n' c' ∧ OwnI .u8 5 w.heap.size wr.heap.size wr a' n' c' (vdig n ++ packL (zs.take k)) ∧ Hid ((zs.take k).all numB = true) ∧ Below w.heap.size w wr) (fun _ i _ => n - (intOf i).toNat)
    case atStart => exact ⟨0, a1, n1, c1, Nat.zero_le _, rfl, rfl, by simpa [packL] using HO.out, rfl, hb1⟩
    case round =>
      obtain ⟨k, a', n', c', hk, rfl, rfl, ho, hall, hb⟩ := hrel
      have hbz := hb.size
      have hn6 : n' ≤ 9 + 6 * n := by
        have := ho.len
        rw [List.length_append, packL_len, List.length_take] at this
        omega
      by_cases hlt : k < n
      · obtain ⟨b1, off1, rfl, hbl1, hc1⟩ := h.ints (by omega)
        have hcell1 : wr.cell? ⟨b1, off1 + k, none⟩ = some (.int .i64 (zs[k]?.getD 0)) := (hb.cell (p := ⟨b1, off1 + k, none⟩) hbl1).trans (by simpa [List.getD] using hc1 k hlt)
        have hki : (k : Int) < (n : Int) := by omega
        have HS := Lib.hid (packL_snoc zs k (by rw [hL.out]; exact hlt))
        have hkz0 : k < zs.length := by rw [hL.out]; exact hlt
        have hin := g0 zs[k] (List.getElem_mem hkz0)
        obtain ⟨X, hX⟩ : ∃ X, X = zs[k]?.getD 0 := ⟨_, rfl⟩
        have hkz : k < zs.length := by rw [hL.out]; exact hlt
        have hXin : In64 X := by rw [hX]; simpa [hkz] using hin
        rw [← hX] at hcell1
        have HX := Lib.hid (show zs.getD k 0 = X from by rw [hX]; simp [List.getD])
        clear hX hc1 h hkz hin hkz0
        have h8 : ∀ y ∈ vdig n ++ packL (zs.take k), In8 y := by
          intro y hy
          rcases List.mem_append.1 hy with hy | hy
          · exact vdig_in8 n n (Nat.le_refl _) y hy
          · obtain ⟨z, _, hz⟩ := List.mem_flatMap.1 hy
            exact fdig_in8 _ y hz
        have H8 := Lib.hid h8
        clear h8
        cases hnb : numB X with
        | false =>
          have HNB := Lib.hid hnb
          clear hnb
          have HF := Lib.hid (listBytesF_bad (all_notZ zs k (by rw [hL.out]; exact hlt) (by rw [HX.out]; exact HNB.out)))
          go_wp2_with fail
          refine (PutFix_spec _ _ _ _ X _ ho.rd H8.out hXin (by omega)).mono ?_
          rintro e w2 ⟨a2, n2, c2, rfl, ho2, hb2⟩
          rw [putFixF_no _ HNB.out] at ho2 ⊢
          go_wp2
          go_ret2
          rw [HF.out]
          exact ⟨none, 0, 0, rfl, (OwnI.nil _ _ _ _), hb.trans (hb2.mono hbz)⟩
        | true =>
          have HNB := Lib.hid hnb
          clear hnb
          go_wp2_with fail
          refine (PutFix_spec _ _ _ _ X _ ho.rd H8.out hXin (by omega)).mono ?_
          rintro e w2 ⟨a2, n2, c2, rfl, ho2, hb2⟩
          rw [putFixF_yes _ HNB.out] at ho2 ⊢
          have e2 : vdig n ++ packL (zs.take k) ++ fdig X.toNat = vdig n ++ packL (zs.take (k + 1)) := by
            rw [HS.out, HX.out, List.append_assoc]; rfl
          simp only [e2] at ho2
          have HO2 := Lib.hid (ho2.lo_le hbz)
          clear ho2 e2
          go_wp2
          go_roundw
          case rel => exact ⟨k + 1, a2, n2, c2, by omega, by go_num, rfl, HO2.out, all_snocZ zs k (by rw [hL.out]; exact hlt) hall.out (by rw [HX.out]; exact HNB.out), hb.trans (hb2.mono hbz)⟩
          case measure => simp [intOf]; omega
      · obtain rfl : k = n := by omega
        have HT := Lib.hid (show zs.take k = zs from List.take_of_length_le (by rw [hL.out]; exact Nat.le_refl _))
        rw [HT.out] at ho hall
        have HF := Lib.hid (listBytesF_good (zs := zs) (by rw [hL.out]; exact hn) hall.out)
        go_wp2
        go_ret2
        rw [HF.out, hL.out]
        exact ⟨a', n', c', rfl, ho, hb⟩
  · have HF := Lib.hid (listBytesF_long (zs := zs) (by rw [hL.out]; exact hn))
    go_enter Try.func23, Try.ntmps23
    go_wp2
    go_ret2
    rw [HF.out]
    exact ⟨none, 0, 0, rfl, OwnI.nil _ _ _ _, Below.refl _ _⟩
end Go.Proofs.Ytkgalkaafocnjaa
