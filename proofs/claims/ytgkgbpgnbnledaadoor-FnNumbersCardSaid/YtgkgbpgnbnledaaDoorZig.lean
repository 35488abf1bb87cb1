/- PutZig, GetZig of the program and of the reference, putZig: what they compute. -/
import Derived.Test.YtgkgbpgnbnledaaDoorGetVar
namespace Go.Proofs.YtgkgbpgnbnledaaDoor
open Go.RowKit
def zigN (x : Int) : Nat := if 0 ≤ x then (2 * x).toNat else (-2 * x - 1).toNat
theorem zigN_pos {x : Int} (h : 0 ≤ x) : ((zigN x : Nat) : Int) = 2 * x := by unfold zigN; rw [if_pos h]; omega
theorem zigN_neg {x : Int} (h : ¬ 0 ≤ x) : ((zigN x : Nat) : Int) = -2 * x - 1 := by unfold zigN; rw [if_neg h]; omega
def zigB (x : Int) : Bool := decide (-140737488355328 ≤ x) && decide (x ≤ 140737488355327)
theorem zigB_yes {x : Int} (h0 : -140737488355328 ≤ x) (h1 : x ≤ 140737488355327) : zigB x = true := by simp [zigB, h0, h1]
theorem zigB_no {x : Int} (h : ¬ (-140737488355328 ≤ x ∧ x ≤ 140737488355327)) : zigB x = false := by
  unfold zigB
  by_cases a : -140737488355328 ≤ x
  · have b : ¬ x ≤ 140737488355327 := fun b => h ⟨a, b⟩
    simp [b]
  · simp [a]
def putZigF (zs : List Int) (x : Int) : List Int × Bool := if zigB x then (zs ++ vdig (zigN x), true) else ([], false)
theorem putZigF_yes (zs : List Int) {x : Int} (h : zigB x = true) : putZigF zs x = (zs ++ vdig (zigN x), true) := by unfold putZigF; rw [if_pos h]
theorem putZigF_no (zs : List Int) {x : Int} (h : zigB x = false) : putZigF zs x = ([], false) := by unfold putZigF; rw [if_neg (by rw [h]; simp)]

set_option maxRecDepth 100000 in
set_option maxHeartbeats 800000 in
theorem putZig_any (a : Option Addr) (n cap : Nat) (zs : List Int) (x : Int) (B : Nat) (w : World) (h : w.ownsRow B 5 1 (.slice a n cap) n (zs.map (.int .u8))) (hz : zs.length = n) (hB : B ≤ w.heap.size) (hn : n ≤ 1099511627776) (hx0 : -1152921504606846976 ≤ x) (hx1 : x ≤ 1152921504606846976) :
    Calls Tryd.prog 63 #[.slice a n cap, .int .i64 x] w fun e w' => ∃ a' n' cap', e = .returned (.slice a' n' cap') ∧ w'.ownsRow B 5 1 (.slice a' n' cap') n' ((zs ++ vdig (zigN x)).map (.int .u8)) ∧ n' = n + (vdig (zigN x)).length ∧ Below B w w' := by
  by_cases hx : 0 ≤ x
  · have HZ := Lib.hid (zigN_pos hx)
    go_enter Tryd.func63, Tryd.ntmps63
    go_wp2_with fail
    rw [← HZ.out]
    refine (putVar_any _ _ _ zs (zigN x) B _ h hz hB hn (by have := HZ.out; omega)).mono ?_
    rintro e w1 ⟨a1, n1, c1, rfl, ho, hn1, hb⟩
    have HN := Lib.hid hn1
    clear hn1
    go_wp2
    go_ret
    exact ⟨a1, n1, c1, rfl, ho, HN.out, hb⟩
  · have HZ := Lib.hid (zigN_neg hx)
    go_enter Tryd.func63, Tryd.ntmps63
    go_wp2_with fail
    rw [← HZ.out]
    refine (putVar_any _ _ _ zs (zigN x) B _ h hz hB hn (by have := HZ.out; omega)).mono ?_
    rintro e w1 ⟨a1, n1, c1, rfl, ho, hn1, hb⟩
    have HN := Lib.hid hn1
    clear hn1
    go_wp2
    go_ret
    exact ⟨a1, n1, c1, rfl, ho, HN.out, hb⟩

set_option maxHeartbeats 800000 in
theorem PutZig_impl (a : Option Addr) (n cap : Nat) (zs : List Int) (x : Int) (w : World) (h : Rd (encI .u8) 1 w a n cap zs) (_g0 : ∀ y ∈ zs, In8 y) (_g1 : In64 x) (hn : n ≤ 1099511627775) :
    Calls Tryd.prog 36 #[.slice a n cap, .int .i64 x] w fun e w' => RetB .u8 5 (putZigF zs x) w e w' := by
  have HL := Lib.hid h.len
  by_cases hx : -140737488355328 ≤ x ∧ x ≤ 140737488355327
  · obtain ⟨h0, h1⟩ := hx
    have HT := Lib.hid (zigB_yes h0 h1)
    go_enter Tryd.func36, Tryd.ntmps36
    go_wp2_with fail
    refine (copyBytes_any _ _ _ zs _ h (by omega)).mono ?_
    rintro e w1 ⟨a1, c1, rfl, ho1, hb1⟩
    go_wp2_with fail
    refine (putZig_any _ _ _ zs x w.heap.size _ ho1 HL.out hb1.size (by omega) (by omega) (by omega)).mono ?_
    rintro e w2 ⟨a2, n2, c2, rfl, ho2, hn2, hb2⟩
    have HN := Lib.hid hn2
    clear hn2
    go_wp2
    go_ret2
    have hzz : zigN x ≤ 281474976710655 := by
      by_cases hp : 0 ≤ x
      · have := zigN_pos hp; omega
      · have := zigN_neg hp; omega
    have hv := vdig_len7 hzz
    rw [putZigF_yes zs HT.out]
    exact ⟨a2, n2, c2, rfl, OwnI.of ho2 (by rw [List.length_append, HL.out, HN.out]) (by rw [HN.out]; omega), hb1.trans hb2⟩
  · have HT := Lib.hid (zigB_no hx)
    have HF := Lib.hid (putZigF_no zs HT.out)
    by_cases a1 : -140737488355328 ≤ x
    · have a2 : 140737488355327 < x := by omega
      clear hx
      go_enter Tryd.func36, Tryd.ntmps36
      go_wp2
      go_ret2
      rw [HF.out]
      exact ⟨none, 0, 0, rfl, OwnI.nil _ _ _ _, Below.refl _ _⟩
    · clear hx
      go_enter Tryd.func36, Tryd.ntmps36
      go_wp2
      go_ret2
      rw [HF.out]
      exact ⟨none, 0, 0, rfl, OwnI.nil _ _ _ _, Below.refl _ _⟩

theorem getVarF_not {zs : List Int} {p : Int} (h : (getVarF zs p).2.2 = false) : getVarF zs p = (0, 0, false) := by
  unfold getVarF at h ⊢
  split
  · rfl
  · rename_i h1
    rw [if_neg h1] at h
    unfold getVarL at h ⊢
    split
    · rename_i h2
      rw [if_pos h2] at h
      split
      · rfl
      · rename_i h3
        rw [if_neg h3] at h
        cases h
    · rfl
theorem getVarF_ok {zs : List Int} {p : Int} (h : (getVarF zs p).2.2 = true) : 0 ≤ (getVarF zs p).1 ∧ (getVarF zs p).1 ≤ 281474976710655 ∧ 0 ≤ p ∧ p < (getVarF zs p).2.1 ∧ (getVarF zs p).2.1 ≤ zs.length := by
  unfold getVarF at h ⊢
  split
  · rename_i h1
    rw [if_pos h1] at h
    cases h
  · rename_i h1
    rw [if_neg h1] at h
    unfold getVarL at h ⊢
    split
    · rename_i h2
      rw [if_pos h2] at h
      split
      · rename_i h3
        rw [if_pos h3] at h
        cases h
      · rename_i h3
        have := h2.2
        rw [List.length_drop] at this
        refine ⟨?_, ?_, ?_, ?_, ?_⟩ <;> first | omega | (simp only []; omega)
    · rename_i h2
      rw [if_neg h2] at h
      cases h
def getZigF (zs : List Int) (p : Int) : Int × Int × Bool := if (getVarF zs p).2.2 then ((if (getVarF zs p).1 % 2 = 0 then (getVarF zs p).1 / 2 else -((getVarF zs p).1 / 2) - 1), (getVarF zs p).2.1, true) else (0, 0, false)

set_option maxRecDepth 100000 in
set_option maxHeartbeats 800000 in
theorem getZig_impl (a : Option Addr) (n cap : Nat) (zs : List Int) (p : Int) (w : World) (h : Rd (encI .u8) 1 w a n cap zs) (g0 : ∀ y ∈ zs, In8 y) (g1 : In64 p) (hn : n ≤ 4611686018427387904) :
    Calls Tryd.prog 37 #[.slice a n cap, .int .i64 p] w fun e w' => e = .returned (.tuple #[.int .i64 (getZigF zs p).1, .int .i64 (getZigF zs p).2.1, .bool (getZigF zs p).2.2]) ∧ Below w.heap.size w w' := by
  have HF : Hid (getZigF zs p = if (getVarF zs p).2.2 then ((if (getVarF zs p).1 % 2 = 0 then (getVarF zs p).1 / 2 else -((getVarF zs p).1 / 2) - 1), (getVarF zs p).2.1, true) else (0, 0, false)) := rfl
  cases ho : (getVarF zs p).2.2 with
  | false =>
    have HN := Lib.hid (getVarF_not ho)
    have HO := Lib.hid ho
    clear ho
    go_enter Tryd.func37, Tryd.ntmps37
    go_wp2_with fail
    refine (getVar_impl _ _ _ zs p _ h g0 g1 hn).mono ?_
    rintro e w1 ⟨rfl, hb⟩
    rw [HN.out]
    go_wp2
    go_ret3
    exact ⟨by rw [HF.out, HO.out]; rfl, hb⟩
  | true =>
    obtain ⟨b0, b1, b2, b3, b4⟩ := getVarF_ok ho
    have HO := Lib.hid ho
    clear ho
    have hlz : (zs.length : Int) ≤ 4611686018427387904 := by have := h.len; omega
    go_enter Tryd.func37, Tryd.ntmps37
    go_wp2_with fail
    refine (getVar_impl _ _ _ zs p _ h g0 g1 hn).mono ?_
    rintro e w1 ⟨rfl, hb⟩
    rw [HO.out]
    obtain ⟨N, hN⟩ : ∃ N, N = (getVarF zs p).1 := ⟨_, rfl⟩
    obtain ⟨M, hM⟩ : ∃ M, M = (getVarF zs p).2.1 := ⟨_, rfl⟩
    rw [← hN] at b0 b1 ⊢
    rw [← hM] at b3 b4 ⊢
    have HNN := Lib.hid hN
    have HMM := Lib.hid hM
    clear hN hM
    by_cases he : N % 2 = 0
    · have HR := Lib.hid (show getZigF zs p = (N / 2, M, true) from by rw [HF.out, HO.out, ← HNN.out, ← HMM.out, if_pos rfl, if_pos he])
      go_wp2
      go_ret3
      exact ⟨by rw [HR.out]; rfl, hb⟩
    · have HR := Lib.hid (show getZigF zs p = (-(N / 2) - 1, M, true) from by rw [HF.out, HO.out, ← HNN.out, ← HMM.out, if_pos rfl, if_neg he])
      go_wp2
      go_ret3
      exact ⟨by rw [HR.out]; rfl, hb⟩

end Go.Proofs.YtgkgbpgnbnledaaDoor
