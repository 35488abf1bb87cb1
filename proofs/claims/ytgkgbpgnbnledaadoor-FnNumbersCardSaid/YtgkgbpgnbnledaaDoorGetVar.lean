/- GetVar of the program and of the reference: what they compute; the plain laws on digits. -/
import Derived.Test.YtgkgbpgnbnledaaDoorVar
import Derived.Test.YtgkgbpgnbnledaaDoorFix
import Derived.Test.YtgkgbpgnbnledaaDoorStr
namespace Go.Proofs.YtgkgbpgnbnledaaDoor
open Go.RowKit
/-- The number whose digits stand in the list, the lowest first. -/
def vval : List Int → Nat
  | [] => 0
  | y :: r => y.toNat % 128 + 128 * vval r
/-- How many bytes from the head on say that more follow. -/
def vrun : List Int → Nat
  | [] => 0
  | y :: r => if y < 128 then 0 else vrun r + 1
theorem vrun_le : ∀ l, vrun l ≤ l.length
  | [] => Nat.le_refl _
  | y :: r => by have := vrun_le r; unfold vrun; split <;> simp <;> omega
theorem vrun_ge : ∀ (l : List Int) (k : Nat), k < vrun l → ¬ l.getD k 0 < 128
  | [], k, h => by simp [vrun] at h
  | y :: r, k, h => by
    unfold vrun at h
    split at h
    · omega
    · cases k with
      | zero => simpa [List.getD] using (by assumption : ¬ y < 128)
      | succ k => have := vrun_ge r k (by omega); simpa [List.getD] using this
theorem vrun_at : ∀ (l : List Int), vrun l < l.length → l.getD (vrun l) 0 < 128
  | [], h => by simp at h
  | y :: r, h => by
    unfold vrun at h ⊢
    by_cases hy : y < 128
    · rw [if_pos hy]; simpa [List.getD] using hy
    · rw [if_neg hy] at h ⊢
      have := vrun_at r (by simpa using h)
      simpa [List.getD] using this
/-- The run is k where the first k bytes say more and the next says no. -/
theorem vrun_eq (l : List Int) (k : Nat) (h1 : k ≤ vrun l) (h2 : l.getD k 0 < 128) : vrun l = k := by
  rcases Nat.lt_or_ge k (vrun l) with h | h
  · exact absurd h2 (vrun_ge l k h)
  · omega
theorem vrun_more (l : List Int) (k : Nat) (h1 : k ≤ vrun l) (hl : k < l.length) (h2 : ¬ l.getD k 0 < 128) : k + 1 ≤ vrun l := by
  rcases Nat.lt_or_ge k (vrun l) with h | h
  · omega
  · have e : vrun l = k := by omega
    have := vrun_at l (by omega)
    rw [e] at this
    exact absurd this h2
theorem vval_lt : ∀ l : List Int, vval l < 128 ^ l.length
  | [] => by simp [vval]
  | y :: r => by
    have := vval_lt r
    unfold vval
    rw [List.length_cons, Nat.pow_succ]
    omega
theorem vval_snoc : ∀ (l : List Int) (y : Int), vval (l ++ [y]) = vval l + y.toNat % 128 * 128 ^ l.length
  | [], y => by simp [vval]
  | x :: r, y => by
    have := vval_snoc r y
    simp only [List.cons_append, vval, this, List.length_cons, Nat.pow_succ]
    rw [Nat.mul_add]
    have : 128 * (y.toNat % 128 * 128 ^ r.length) = y.toNat % 128 * (128 ^ r.length * 128) := by
      rw [Nat.mul_comm 128, Nat.mul_assoc]
    omega

def getVarL (l : List Int) (p : Int) : Int × Int × Bool :=
  if vrun l < 7 ∧ vrun l < l.length then
    (if (l.getD (vrun l) 0 = 0 ∧ 0 < vrun l) ∨ 281474976710655 < vval (l.take (vrun l + 1)) then (0, 0, false) else ((vval (l.take (vrun l + 1)) : Nat), p + (vrun l : Int) + 1, true))
  else (0, 0, false)
def getVarF (zs : List Int) (p : Int) : Int × Int × Bool := if p < 0 ∨ (zs.length : Int) ≤ p then (0, 0, false) else getVarL (zs.drop p.toNat) p
theorem getVarF_out (zs : List Int) {p : Int} (h : p < 0 ∨ (zs.length : Int) ≤ p) : getVarF zs p = (0, 0, false) := if_pos h
theorem getVarF_in (zs : List Int) {q : Nat} (h : q < zs.length) : getVarF zs (q : Int) = getVarL (zs.drop q) q := by
  unfold getVarF; rw [if_neg (by omega)]; rfl
theorem getVarL_long (l : List Int) (p : Int) (h : ¬ (vrun l < 7 ∧ vrun l < l.length)) : getVarL l p = (0, 0, false) := if_neg h
theorem getVarL_bad (l : List Int) (p : Int) (k : Nat) (e : vrun l = k) (h7 : k < 7) (hl : k < l.length) (h : (l.getD k 0 = 0 ∧ 0 < k) ∨ 281474976710655 < vval (l.take (k + 1))) : getVarL l p = (0, 0, false) := by
  unfold getVarL; rw [e, if_pos ⟨h7, hl⟩, if_pos h]
theorem getVarL_good (l : List Int) (p : Int) (k : Nat) (e : vrun l = k) (h7 : k < 7) (hl : k < l.length) (h : ¬ ((l.getD k 0 = 0 ∧ 0 < k) ∨ 281474976710655 < vval (l.take (k + 1)))) : getVarL l p = (((vval (l.take (k + 1)) : Nat) : Int), p + (k : Int) + 1, true) := by
  unfold getVarL; rw [e, if_pos ⟨h7, hl⟩, if_neg h]
theorem vval_step (l : List Int) (k : Nat) (h : k < l.length) : vval (l.take (k + 1)) = vval (l.take k) + (l.getD k 0).toNat % 128 * 128 ^ k := by
  rw [List.take_succ_eq_append_getElem h, vval_snoc, List.length_take, Nat.min_eq_left (Nat.le_of_lt h)]
  simp [List.getD, h]
theorem vval_take_lt (l : List Int) (k : Nat) (h : k ≤ 7) : vval (l.take k) < 562949953421312 := by
  have h1 := vval_lt (l.take k)
  have h2 : 128 ^ (l.take k).length ≤ 128 ^ 7 := Nat.pow_le_pow_right (by omega) (by rw [List.length_take]; omega)
  omega

theorem vval_zero : ∀ (l : List Int), vrun l < l.length → (∀ y ∈ l, In8 y) → vval (l.take (vrun l + 1)) = 0 → l.getD (vrun l) 0 = 0
  | [], h, _, _ => by simp at h
  | y :: r, h, h8, hv => by
    have hy := h8 y (by simp)
    unfold In8 at hy
    unfold vrun at h hv ⊢
    by_cases hlt : y < 128
    · rw [if_pos hlt] at hv ⊢
      simp [vval] at hv
      simp [List.getD]
      omega
    · rw [if_neg hlt] at h hv ⊢
      have := vval_zero r (by simpa using h) (fun z hz => h8 z (by simp [hz])) (by
        rw [List.take_succ_cons] at hv
        unfold vval at hv
        omega)
      simpa [List.getD] using this
theorem vdig_vval : ∀ (l : List Int), vrun l < l.length → (∀ y ∈ l, In8 y) → (vdig (vval (l.take (vrun l + 1))) = l.take (vrun l + 1) ↔ ¬ (l.getD (vrun l) 0 = 0 ∧ 0 < vrun l))
  | [], h, _ => by simp at h
  | y :: r, h, h8 => by
    have hy := h8 y (by simp)
    unfold In8 at hy
    by_cases hlt : y < 128
    · have e : vrun (y :: r) = 0 := by unfold vrun; rw [if_pos hlt]
      rw [e]
      have ev : vval (List.take (0 + 1) (y :: r)) = y.toNat := by simp [vval]; omega
      rw [ev, vdig_lt (by omega)]
      simp
      omega
    · have e : vrun (y :: r) = vrun r + 1 := by
        show (if y < 128 then 0 else vrun r + 1) = _
        rw [if_neg hlt]
      rw [e] at h ⊢
      have h' : vrun r < r.length := by simpa using h
      have h8' : ∀ z ∈ r, In8 z := fun z hz => h8 z (by simp [hz])
      have ih := vdig_vval r h' h8'
      rw [List.take_succ_cons]
      have hg : (y :: r).getD (vrun r + 1) 0 = r.getD (vrun r) 0 := by simp [List.getD]
      rw [hg]
      have hz := vval_zero r h' h8'
      have hv : vval (y :: r.take (vrun r + 1)) = y.toNat % 128 + 128 * vval (r.take (vrun r + 1)) := rfl
      rw [hv]
      obtain ⟨V, hV⟩ : ∃ V, V = vval (r.take (vrun r + 1)) := ⟨_, rfl⟩
      rw [← hV] at ih hz ⊢
      by_cases hV0 : V = 0
      · rw [hV0, vdig_lt (by omega)]
        constructor
        · intro he
          exfalso
          have := (List.cons.inj he).1
          omega
        · intro hn
          exact absurd ⟨hz hV0, by omega⟩ hn
      · rw [vdig_ge (by omega)]
        have e1 : (y.toNat % 128 + 128 * V) / 128 = V := by omega
        have e2 : (((y.toNat % 128 + 128 * V) % 128 + 128 : Nat) : Int) = y := by omega
        rw [e1, e2]
        have hc : (y :: vdig V = y :: r.take (vrun r + 1)) ↔ (vdig V = r.take (vrun r + 1)) := by simp
        rw [hc, ih]
        constructor
        · intro hn hh
          refine hn ⟨hh.1, ?_⟩
          rcases Nat.eq_zero_or_pos (vrun r) with h0 | h0
          · exfalso
            apply hV0
            rw [hV, h0]
            have h1 := hh.1
            rw [h0] at h1
            cases r with
            | nil => simp at h'
            | cons z t => simp [List.getD] at h1; simp [vval, h1]
          · exact h0
        · intro hn hh
          exact hn ⟨hh.1, by omega⟩

theorem vval_drop (l : List Int) (m j : Nat) (h : j < m) (hm : m ≤ l.length) : vval ((l.take m).drop j) = (l.getD j 0).toNat % 128 + 128 * vval ((l.take m).drop (j + 1)) := by
  have hl : j < (l.take m).length := by rw [List.length_take]; omega
  rw [List.drop_eq_getElem_cons hl]
  simp [vval, List.getD, show j < l.length from by omega]
theorem vval_drop_lt (l : List Int) (m j : Nat) (h : m ≤ 7) : vval ((l.take m).drop j) < 562949953421312 := by
  have h1 := vval_lt ((l.take m).drop j)
  have h2 : 128 ^ ((l.take m).drop j).length ≤ 128 ^ 7 := Nat.pow_le_pow_right (by omega) (by rw [List.length_drop, List.length_take]; omega)
  omega

set_option maxRecDepth 100000 in
set_option maxHeartbeats 1600000 in
theorem getVar_impl (a : Option Addr) (n cap : Nat) (zs : List Int) (p : Int) (w : World) (h : Rd (encI .u8) 1 w a n cap zs) (g0 : ∀ y ∈ zs, In8 y) (g1 : In64 p) (hn : n ≤ 4611686018427387904) :
    Calls Tryd.prog 35 #[.slice a n cap, .int .i64 p] w fun e w' => e = .returned (.tuple #[.int .i64 (getVarF zs p).1, .int .i64 (getVarF zs p).2.1, .bool (getVarF zs p).2.2]) ∧ Below w.heap.size w w' := by
  have hL := Lib.hid h.len
  have hm := h.max
  have hle := h.le
  unfold maxLen at hm
  unfold In64 at g1
  by_cases h0 : 0 ≤ p ∧ p < (n : Int)
  · obtain ⟨h1, h2⟩ := h0
    obtain ⟨b1, off1, rfl, hbl1, hc1⟩ := h.ints (by omega)
    obtain ⟨q, rfl⟩ := Int.eq_ofNat_of_zero_le h1
    have HF := Lib.hid (getVarF_in zs (q := q) (by rw [hL.out]; omega))
    have HC := Lib.hid hc1
    clear hc1 h
    have hdl : (zs.drop q).length = n - q := by rw [List.length_drop, hL.out]
    have HD := Lib.hid hdl
    clear hdl
    have hg : ∀ k, (zs.drop q).getD k 0 = zs.getD (q + k) 0 := by intro k; simp [List.getD]
    have HG := Lib.hid hg
    clear hg
    obtain ⟨l, hl⟩ : ∃ l, l = zs.drop q := ⟨_, rfl⟩
    have HLL := Lib.hid hl
    rw [← hl] at HF HD HG
    clear hl
    have hqn : q < n := by omega
    have hd16 : decide (n ≤ q) = false := decide_eq_false (by omega)
    go_enter Tryd.func35, Tryd.ntmps35
    go_wp2
    go_loopw [7, 8] (fun v i wr => ∃ k : Nat, k ≤ 7 ∧ k ≤ vrun l ∧ i = .int .i64 k ∧ v = .int .i64 (vval (l.take k) : Nat) ∧ Below w.heap.size w wr) (fun _ i _ => 7 - (intOf i).toNat)
    case atStart => exact ⟨0, by omega, Nat.zero_le _, rfl, rfl, Below.refl _ _⟩
    case round =>
      obtain ⟨k, hk, hkr, rfl, rfl, hb⟩ := hrel
      have hvr := vrun_le l
      by_cases hk7 : k < 7
      · by_cases hkl : q + k < n
        · have hklen : k < l.length := by rw [HD.out]; omega
          have HST := Lib.hid (vval_step l k hklen)
          have hV1 := vval_take_lt l (k + 1) (by omega)
          have hV0 := vval_take_lt l k (by omega)
          obtain ⟨hx0, hx1⟩ := in8_getD g0 (q + k)
          have hcell1 : wr.cell? ⟨b1, off1 + (q + k), none⟩ = some (.int .u8 (zs[q + k]?.getD 0)) := (hb.cell (p := ⟨b1, off1 + (q + k), none⟩) hbl1).trans (by simpa [List.getD] using HC.out (q + k) hkl)
          obtain ⟨X, hX⟩ : ∃ X : Nat, zs[q + k]?.getD 0 = (X : Int) := Int.eq_ofNat_of_zero_le hx0
          have hGX : l.getD k 0 = (X : Int) := by rw [HG.out k]; simpa [List.getD] using hX
          have HGX := Lib.hid hGX
          rw [hX] at hcell1 hx1
          clear hX hGX hx0 hklen
          obtain ⟨V, hV⟩ : ∃ V, V = vval (l.take k) := ⟨_, rfl⟩
          rw [← hV] at hV0 ⊢
          have HV := Lib.hid hV
          clear hV
          obtain ⟨V2, hV2⟩ : ∃ V2, V2 = vval (l.take (k + 1)) := ⟨_, rfl⟩
          rw [← hV2] at hV1
          have HV2 := Lib.hid hV2
          clear hV2
          obtain ⟨D, hD⟩ : ∃ D, D = X % 128 * 128 ^ k := ⟨_, rfl⟩
          have hVD : V2 = V + D := by
            rw [HV2.out, HST.out, ← HV.out, HGX.out, hD, Int.toNat_natCast]
          have HDD := Lib.hid hD
          clear hD
          have hDb : D < 562949953421312 := Nat.lt_of_le_of_lt (by rw [hVD]; exact Nat.le_add_left _ _) hV1
          have hsum : (V : Int) + (D : Int) = (V2 : Int) := by rw [hVD]; simp
          have e0 : (X : Int) % 128 * 2 ^ (7 * k) = (D : Int) := by
            rw [HDD.out, Int.pow_mul]; simp
          have hsh : wrap64 ((X : Int) % 128 * 2 ^ (7 * k)) = (D : Int) := by
            rw [e0]; exact IntWalk.wrap64_in _ ⟨by clear e0; omega, by clear e0; omega⟩
          clear e0
          have HVD := Lib.hid hVD
          clear hVD
          by_cases hX : X < 128
          · have HRUN := Lib.hid (vrun_eq l k hkr (by rw [HGX.out]; omega))
            by_cases hbad : (X = 0 ∧ 0 < k) ∨ 281474976710655 < V2
            · have HBAD := Lib.hid (getVarL_bad l (q : Int) k HRUN.out hk7 (by rw [HD.out]; omega) (by rw [HGX.out, ← HV2.out]; omega))
              go_wp2
              all_goals
                go_ret3
                exact ⟨by rw [HF.out, HBAD.out]; rfl, hb⟩
            · have HGOOD := Lib.hid (getVarL_good l (q : Int) k HRUN.out hk7 (by rw [HD.out]; omega) (by rw [HGX.out, ← HV2.out]; omega))
              by_cases hX0 : X = 0
              · obtain rfl : k = 0 := by omega
                subst hX0
                have hcell0 : wr.cell? ⟨b1, off1 + q, none⟩ = some (.int .u8 0) := by simpa using hcell1
                go_wp2
                go_ret3
                have hv : V2 = V := by rw [HVD.out, HDD.out]; simp
                exact ⟨by rw [HF.out, HGOOD.out, ← HV2.out, hv]; simp, hb⟩
              · have hX1 : 0 < X := by omega
                go_wp2
                go_ret3
                exact ⟨by rw [HF.out, HGOOD.out, ← HV2.out]; rfl, hb⟩
          · have HMORE := Lib.hid (vrun_more l k hkr (by rw [HD.out]; omega) (by rw [HGX.out]; omega))
            go_wp2
            go_roundw
            case rel => exact ⟨k + 1, by omega, HMORE.out, by go_num, by rw [← HV2.out], hb⟩
            case measure => simp [intOf]; omega
        · have HLONG := Lib.hid (getVarL_long l (q : Int) (by rw [HD.out]; have := HD.out; omega))
          have hki : (n : Int) ≤ (q : Int) + (k : Int) := by omega
          have hkf : decide ((q : Int) + (k : Int) < (n : Int)) = false := decide_eq_false (by omega)
          have hkg : decide (q + k < n) = false := decide_eq_false (by omega)
          go_wp2
          go_ret3
          exact ⟨by rw [HF.out, HLONG.out]; rfl, hb⟩
      · obtain rfl : k = 7 := by omega
        have HLONG := Lib.hid (getVarL_long l (q : Int) (by omega))
        go_wp2
        go_ret3
        exact ⟨by rw [HF.out, HLONG.out]; rfl, hb⟩
  · have HF := Lib.hid (getVarF_out zs (p := p) (by rw [hL.out]; omega))
    by_cases h1 : 0 ≤ p
    · have h2 : (n : Int) ≤ p := by omega
      clear h0
      go_enter Tryd.func35, Tryd.ntmps35
      go_wp2
      go_ret3
      exact ⟨by rw [HF.out]; rfl, Below.refl _ _⟩
    · clear h0
      go_enter Tryd.func35, Tryd.ntmps35
      go_wp2
      go_ret3
      exact ⟨by rw [HF.out]; rfl, Below.refl _ _⟩
end Go.Proofs.YtgkgbpgnbnledaaDoor
