/- GetVar of the program and of the reference: what they compute; the plain laws on digits. -/
import Derived.Test.YtkgalkaafocnjaaVar
import Derived.Test.YtkgalkaafocnjaaFix
import Derived.Test.YtkgalkaafocnjaaStr
namespace Go.Proofs.Ytkgalkaafocnjaa
open Go.RowKit
/-- The number whose digits stand in the list, the lowest first. -/
def vval : List Int → Nat
  | [] => 0
  | y :: r => y.toNat % 128 + 128 * vval r
/-- How many bytes from the head on say that more follow. -/
def vrun : List Int → Nat
  | [] => 0
  | y :: r => if y < 128 then 0 else vrun r + 1
theorem vrun_le : ∀ l, vrun l ≤ l.length
  | [] => Nat.le_refl _
  | y :: r => by have := vrun_le r; unfold vrun; split <;> simp <;> omega
theorem vrun_ge : ∀ (l : List Int) (k : Nat), k < vrun l → ¬ l.getD k 0 < 128
  | [], k, h => by simp [vrun] at h
  | y :: r, k, h => by
    unfold vrun at h
    split at h
    · omega
    · cases k with
      | zero => simpa [List.getD] using (by assumption : ¬ y < 128)
      | succ k => have := vrun_ge r k (by omega); simpa [List.getD] using this
theorem vrun_at : ∀ (l : List Int), vrun l < l.length → l.getD (vrun l) 0 < 128
  | [], h => by simp at h
  | y :: r, h => by
    unfold vrun at h ⊢
    by_cases hy : y < 128
    · rw [if_pos hy]; simpa [List.getD] using hy
    · rw [if_neg hy] at h ⊢
      have := vrun_at r (by simpa using h)
      simpa [List.getD] using this
/-- The run is k where the first k bytes say more and the next says no. -/
theorem vrun_eq (l : List Int) (k : Nat) (h1 : k ≤ vrun l) (h2 : l.getD k 0 < 128) : vrun l = k := by
  rcases Nat.lt_or_ge k (vrun l) with h | h
  · exact absurd h2 (vrun_ge l k h)
  · omega
theorem vrun_more (l : List Int) (k : Nat) (h1 : k ≤ vrun l) (hl : k < l.length) (h2 : ¬ l.getD k 0 < 128) : k + 1 ≤ vrun l := by
  rcases Nat.lt_or_ge k (vrun l) with h | h
  · omega
  · have e : vrun l = k := by omega
    have := vrun_at l (by omega)
    rw [e] at this
    exact absurd this h2
theorem vval_lt : ∀ l : List Int, vval l < 128 ^ l.length
  | [] => by simp [vval]
  | y :: r => by
    have := vval_lt r
    unfold vval
    rw [List.length_cons, Nat.pow_succ]
    omega
theorem vval_snoc : ∀ (l : List Int) (y : Int), vval (l ++ [y]) = vval l + y.toNat % 128 * 128 ^ l.length
  | [], y => by simp [vval]
  | x :: r, y => by
    have := vval_snoc r y
    simp only [List.cons_append, vval, this, List.length_cons, Nat.pow_succ]
    rw [Nat.mul_add]
    have : 128 * (y.toNat % 128 * 128 ^ r.length) = y.toNat % 128 * (128 ^ r.length * 128) := by
      rw [Nat.mul_comm 128, Nat.mul_assoc]
    omega

def getVarL (l : List Int) (p : Int) : Int × Int × Bool :=
  if vrun l < 7 ∧ vrun l < l.length then
    (if (l.getD (vrun l) 0 = 0 ∧ 0 < vrun l) ∨ 281474976710655 < vval (l.take (vrun l + 1)) then (0, 0, false) else ((vval (l.take (vrun l + 1)) : Nat), p + (vrun l : Int) + 1, true))
  else (0, 0, false)
def getVarF (zs : List Int) (p : Int) : Int × Int × Bool := if p < 0 ∨ (zs.length : Int) ≤ p then (0, 0, false) else getVarL (zs.drop p.toNat) p
theorem getVarF_out (zs : List Int) {p : Int} (h : p < 0 ∨ (zs.length : Int) ≤ p) : getVarF zs p = (0, 0, false) := if_pos h
theorem getVarF_in (zs : List Int) {q : Nat} (h : q < zs.length) : getVarF zs (q : Int) = getVarL (zs.drop q) q := by
  unfold getVarF; rw [if_neg (by omega)]; rfl
theorem getVarL_long (l : List Int) (p : Int) (h : ¬ (vrun l < 7 ∧ vrun l < l.length)) : getVarL l p = (0, 0, false) := if_neg h
theorem getVarL_bad (l : List Int) (p : Int) (k : Nat) (e : vrun l = k) (h7 : k < 7) (hl : k < l.length) (h : (l.getD k 0 = 0 ∧ 0 < k) ∨ 281474976710655 < vval (l.take (k + 1))) : getVarL l p = (0, 0, false) := by
  unfold getVarL; rw [e, if_pos ⟨h7, hl⟩, if_pos h]
theorem getVarL_good (l : List Int) (p : Int) (k : Nat) (e : vrun l = k) (h7 : k < 7) (hl : k < l.length) (h : ¬ ((l.getD k 0 = 0 ∧ 0 < k) ∨ 281474976710655 < vval (l.take (k + 1)))) : getVarL l p = (((vval (l.take (k + 1)) : Nat) : Int), p + (k : Int) + 1, true) := by
  unfold getVarL; rw [e, if_pos ⟨h7, hl⟩, if_neg h]
theorem vval_step (l : List Int) (k : Nat) (h : k < l.length) : vval (l.take (k + 1)) = vval (l.take k) + (l.getD k 0).toNat % 128 * 128 ^ k := by
  rw [List.take_succ_eq_append_getElem h, vval_snoc, List.length_take, Nat.min_eq_left (Nat.le_of_lt h)]
  simp [List.getD, h]
theorem vval_take_lt (l : List Int) (k : Nat) (h : k ≤ 7) : vval (l.take k) < 562949953421312 := by
  have h1 := vval_lt (l.take k)
  have h2 : 128 ^ (l.take k).length ≤ 128 ^ 7 := Nat.pow_le_pow_right (by omega) (by rw [List.length_take]; omega)
  omega

theorem vval_zero : ∀ (l : List Int), vrun l < l.length → (∀ y ∈ l, In8 y) → vval (l.take (vrun l + 1)) = 0 → l.getD (vrun l) 0 = 0
  | [], h, _, _ => by simp at h
  | y :: r, h, h8, hv => by
    have hy := h8 y (by simp)
    unfold In8 at hy
    unfold vrun at h hv ⊢
    by_cases hlt : y < 128
    · rw [if_pos hlt] at hv ⊢
      simp [vval] at hv
      simp [List.getD]
      omega
    · rw [if_neg hlt] at h hv ⊢
      have := vval_zero r (by simpa using h) (fun z hz => h8 z (by simp [hz])) (by
        rw [List.take_succ_cons] at hv
        unfold vval at hv
        omega)
      simpa [List.getD] using this
theorem vdig_vval : ∀ (l : List Int), vrun l < l.length → (∀ y ∈ l, In8 y) → (vdig (vval (l.take (vrun l + 1))) = l.take (vrun l + 1) ↔ ¬ (l.getD (vrun l) 0 = 0 ∧ 0 < vrun l))
  | [], h, _ => by simp at h
  | y :: r, h, h8 => by
    have hy := h8 y (by simp)
    unfold In8 at hy
    by_cases hlt : y < 128
    · have e : vrun (y :: r) = 0 := by unfold vrun; rw [if_pos hlt]
      rw [e]
      have ev : vval (List.take (0 + 1) (y :: r)) = y.toNat := by simp [vval]; omega
      rw [ev, vdig_lt (by omega)]
      simp
      omega
    · have e : vrun (y :: r) = vrun r + 1 := by
        show (if y < 128 then 0 else vrun r + 1) = _
        rw [if_neg hlt]
      rw [e] at h ⊢
      have h' : vrun r < r.length := by simpa using h
      have h8' : ∀ z ∈ r, In8 z := fun z hz => h8 z (by simp [hz])
      have ih := vdig_vval r h' h8'
      rw [List.take_succ_cons]
      have hg : (y :: r).getD (vrun r + 1) 0 = r.getD (vrun r) 0 := by simp [List.getD]
      rw [hg]
      have hz := vval_zero r h' h8'
      have hv : vval (y :: r.take (vrun r + 1)) = y.toNat % 128 + 128 * vval (r.take (vrun r + 1)) := rfl
      rw [hv]
      obtain ⟨V, hV⟩ : ∃ V, V = vval (r.take (vrun r + 1)) := ⟨_, rfl⟩
      rw [← hV] at ih hz ⊢
      by_cases hV0 : V = 0
      · rw [hV0, vdig_lt (by omega)]
        constructor
        · intro he
          exfalso
          have := (List.cons.inj he).1
          omega
        · intro hn
          exact absurd ⟨hz hV0, by omega⟩ hn
      · rw [vdig_ge (by omega)]
        have e1 : (y.toNat % 128 + 128 * V) / 128 = V := by omega
        have e2 : (((y.toNat % 128 + 128 * V) % 128 + 128 : Nat) : Int) = y := by omega
        rw [e1, e2]
        have hc : (y :: vdig V = y :: r.take (vrun r + 1)) ↔ (vdig V = r.take (vrun r + 1)) := by simp
        rw [hc, ih]
        constructor
        · intro hn hh
          refine hn ⟨hh.1, ?_⟩
          rcases Nat.eq_zero_or_pos (vrun r) with h0 | h0
          · exfalso
            apply hV0
            rw [hV, h0]
            have h1 := hh.1
            rw [h0] at h1
            cases r with
            | nil => simp at h'
            | cons z t => simp [List.getD] at h1; simp [vval, h1]
          · exact h0
        · intro hn hh
          exact hn ⟨hh.1, by omega⟩

theorem vval_drop (l : List Int) (m j : Nat) (h : j < m) (hm : m ≤ l.length) : vval ((l.take m).drop j) = (l.getD j 0).toNat % 128 + 128 * vval ((l.take m).drop (j + 1)) := by
  have hl : j < (l.take m).length := by rw [List.length_take]; omega
  rw [List.drop_eq_getElem_cons hl]
  simp [vval, List.getD, show j < l.length from by omega]
theorem vval_drop_lt (l : List Int) (m j : Nat) (h : m ≤ 7) : vval ((l.take m).drop j) < 562949953421312 := by
  have h1 := vval_lt ((l.take m).drop j)
  have h2 : 128 ^ ((l.take m).drop j).length ≤ 128 ^ 7 := Nat.pow_le_pow_right (by omega) (by rw [List.length_drop, List.length_take]; omega)
  omega

set_option maxRecDepth 100000 in
set_option maxHeartbeats 1600000 in
theorem getVar_spec (a : Option Addr) (n cap : Nat) (zs : List Int) (p : Int) (w : World) (h : Rd (encI .u8) 1 w a n cap zs) (g0 : ∀ y ∈ zs, In8 y) (g1 : In64 p) (hn : n ≤ 4611686018427387904) :
    Calls Try.prog 63 #[.slice a n cap, .int .i64 p] w fun e w' => e = .returned (.tuple #[.int .i64 (getVarF zs p).1, .int .i64 (getVarF zs p).2.1, .bool (getVarF zs p).2.2]) ∧ Below w.heap.size w w' := by
  have hL := Lib.hid h.len
  have hm := h.max
  have hle := h.le
  unfold maxLen at hm
  unfold In64 at g1
  by_cases h0 : 0 ≤ p ∧ p < (n : Int)
  · obtain ⟨h1, h2⟩ := h0
    obtain ⟨b1, off1, rfl, hbl1, hc1⟩ := h.ints (by omega)
    obtain ⟨q, rfl⟩ := Int.eq_ofNat_of_zero_le h1
    have HF := Lib.hid (getVarF_in zs (q := q) (by rw [hL.out]; omega))
    have HC := Lib.hid hc1
    clear hc1
    have HRD := Lib.hid h
    clear h
    have hdl : (zs.drop q).length = n - q := by rw [List.length_drop, hL.out]
    have HD := Lib.hid hdl
    clear hdl
    have hg : ∀ k, (zs.drop q).getD k 0 = zs.getD (q + k) 0 := by intro k; simp [List.getD]
    have HG := Lib.hid hg
    clear hg
    have H8 := Lib.hid (show ∀ y ∈ zs.drop q, In8 y from fun y hy => g0 y (List.mem_of_mem_drop hy))
    obtain ⟨l, hl⟩ : ∃ l, l = zs.drop q := ⟨_, rfl⟩
    have HLL := Lib.hid hl
    rw [← hl] at HF HD HG H8
    clear hl
    have hqn : q < n := by omega
    have hd16 : decide (n ≤ q) = false := decide_eq_false (by omega)
    go_enter Try.func63, Try.ntmps63
    go_wp2
    go_loopw [7] (fun i wr => ∃ k : Nat, k ≤ 7 ∧ q + k ≤ n ∧ k ≤ vrun l ∧ i = .int .i64 ((q + k : Nat) : Int) ∧ Below w.heap.size w wr) (fun i _ => q + 7 - (intOf i).toNat)
    case atStart => exact ⟨0, by omega, by omega, Nat.zero_le _, rfl, Below.refl _ _⟩
    case round =>
      obtain ⟨k, hk, hkn, hkr, rfl, hb⟩ := hrel
      have hvr := vrun_le l
      by_cases hk7 : k < 7
      · by_cases hkl : q + k < n
        · obtain ⟨hx0, hx1⟩ := in8_getD g0 (q + k)
          have hcell1 : wr.cell? ⟨b1, off1 + (q + k), none⟩ = some (.int .u8 (zs[q + k]?.getD 0)) := (hb.cell (p := ⟨b1, off1 + (q + k), none⟩) hbl1).trans (by simpa [List.getD] using HC.out (q + k) hkl)
          obtain ⟨X, hX⟩ : ∃ X : Nat, zs[q + k]?.getD 0 = (X : Int) := Int.eq_ofNat_of_zero_le hx0
          have hGX : l.getD k 0 = (X : Int) := by rw [HG.out k]; simpa [List.getD] using hX
          have HGX := Lib.hid hGX
          rw [hX] at hcell1 hx1
          clear hX hGX hx0
          by_cases hX : X < 128
          · have hXi : (X : Int) < 128 := by omega
            have hkl1 : k + 1 ≤ l.length := by rw [HD.out]; omega
            have HRUN := Lib.hid (vrun_eq l k hkr (by rw [HGX.out]; omega))
            go_wp2
            · exfalso
              have hh : (((q : Int) + (k : Int)) == (n : Int)) = true ∨ (((q : Int) + (k : Int)) == ((q : Int) + 7)) = true := by assumption
              simp at hh
              omega
            obtain ⟨wo, hwo⟩ : ∃ wo : World, wo = wr := ⟨_, rfl⟩
            subst hwo
            go_loop [8, 9] (fun v i => ∃ j : Nat, j ≤ k + 1 ∧ i = .int .i64 ((q : Int) + (j : Int) - 1) ∧ v = .int .i64 (vval ((l.take (k + 1)).drop j) : Nat)) (fun _ i => (intOf i + 1).toNat)
            case atStart => exact ⟨k + 1, by omega, by go_num, by rw [List.drop_of_length_le (by rw [List.length_take]; omega)]; rfl⟩
            case round =>
              obtain ⟨j, hj, rfl, rfl⟩ := hrel
              have hV := vval_drop_lt l (k + 1) j (by omega)
              by_cases hj0 : 0 < j
              · obtain ⟨m, rfl⟩ : ∃ m, j = m + 1 := ⟨j - 1, by omega⟩
                have hi0 : (q : Int) + ((m + 1 : Nat) : Int) - 1 = (q : Int) + (m : Int) := by omega
                rw [hi0]
                have HST := Lib.hid (vval_drop l (k + 1) m (by omega) hkl1)
                obtain ⟨V, hVV⟩ : ∃ V, V = vval ((l.take (k + 1)).drop (m + 1)) := ⟨_, rfl⟩
                rw [← hVV] at hV ⊢
                have HV := Lib.hid hVV
                have hV2 := vval_drop_lt l (k + 1) m (by omega)
                obtain ⟨V2, hVV2⟩ : ∃ V2, V2 = vval ((l.take (k + 1)).drop m) := ⟨_, rfl⟩
                rw [← hVV2] at hV2
                have HV2 := Lib.hid hVV2
                obtain ⟨hy0, hy1⟩ := in8_getD g0 (q + m)
                have hcell2 : wo.cell? ⟨b1, off1 + (q + m), none⟩ = some (.int .u8 (zs[q + m]?.getD 0)) := (hb.cell (p := ⟨b1, off1 + (q + m), none⟩) hbl1).trans (by simpa [List.getD] using HC.out (q + m) (by omega))
                obtain ⟨Y, hY⟩ : ∃ Y : Nat, zs[q + m]?.getD 0 = (Y : Int) := Int.eq_ofNat_of_zero_le hy0
                have HGY := Lib.hid (show l.getD m 0 = (Y : Int) from by rw [HG.out m]; simpa [List.getD] using hY)
                rw [hY] at hcell2 hy1
                clear hY hy0 hVV hVV2 hi0
                have hqm : (q : Int) + (m : Int) < (n : Int) := by omega
                go_wp2
                go_round
                case rel => exact ⟨m, by omega, by go_num, by rw [← HV2.out, HV2.out, HST.out, ← HV.out, HGY.out, Int.toNat_natCast]; go_num⟩
                case measure => simp [intOf]; omega
              · obtain rfl : j = 0 := by omega
                rw [List.drop_zero] at hV ⊢
                have HCAN := Lib.hid (vdig_vval l (by rw [HRUN.out]; omega) H8.out)
                obtain ⟨V, hVV⟩ : ∃ V, V = vval (l.take (k + 1)) := ⟨_, rfl⟩
                rw [← hVV] at hV ⊢
                have HV := Lib.hid hVV
                clear hVV
                go_wp2_with fail
                refine (PutVar_spec none 0 0 [] (V : Int) _ ⟨Nat.le_refl _, by unfold maxLen; omega, rfl, fun _ => rfl, fun hh => absurd hh (Nat.lt_irrefl 0)⟩ (fun y hy => by simp at hy) (by unfold In64; omega) (by omega)).mono ?_
                rintro e w1 ⟨a1, n1, c1, rfl, ho1, hb1⟩
                have BB := hb.trans (hb1.mono hb.size)
                by_cases hVm : V ≤ 281474976710655
                · have HP := Lib.hid (putVarF_yes [] (numB_true (n := (V : Int)) (by omega) (by omega)))
                  rw [HP.out] at ho1 ⊢
                  simp only [List.nil_append, Int.toNat_natCast] at ho1
                  have kW : ∀ nq, (convert 22 9 (.slice a1 n1 c1)).run Try.prog (w1.drewN nq) = .ok (.string (strOfNums (vdig V))) (w1.drewN nq) := fun nq => (ho1.rd.drewN nq).str Try.underlying22 Try.underlying5 Try.underlying9
                  have kB : ∀ nq, (convert 22 9 (.slice (some ⟨b1, off1 + q, none⟩) (q + k + 1 - q) (cap - q))).run Try.prog (w1.drewN nq) = .ok (.string (strOfNums (l.take (k + 1)))) (w1.drewN nq) := fun nq => by
                    have := (((HRD.out.below BB (Nat.le_refl _)).window q (q + k + 1) (by omega) (by omega)).drewN nq).str (P := Try.prog) (dst := 9) Try.underlying22 Try.underlying5 Try.underlying9
                    rw [HLL.out, show k + 1 = q + k + 1 - q from by omega]
                    exact this
                  have hqc : q + k + 1 ≤ cap := by omega
                  have hqi : (q : Int) + (k : Int) + 1 ≤ (cap : Int) := by omega
                  have h8a := vdig_in8 V V (Nat.le_refl _)
                  have h8b : ∀ y ∈ l.take (k + 1), In8 y := fun y hy => H8.out y (List.mem_of_mem_take hy)
                  have hse := str_eq h8a h8b
                  by_cases hcan : vdig V = l.take (k + 1)
                  · rw [decide_eq_true hcan] at hse
                    have HGOOD := Lib.hid (getVarL_good l (q : Int) k HRUN.out hk7 (by omega) (by
                      intro hh
                      rcases hh with hh | hh
                      · have h1 := HCAN.out
                        rw [HRUN.out, ← HV.out] at h1
                        exact (h1.1 hcan) hh
                      · rw [← HV.out] at hh; omega))
                    clear hcan h8a h8b
                    go_wp2
                    go_quiet (fail)
                    go_wp2
                    go_ret3
                    exact ⟨by rw [HF.out, HGOOD.out, ← HV.out]; rfl, below_drewN BB _⟩
                  · rw [decide_eq_false hcan] at hse
                    have HBAD := Lib.hid (getVarL_bad l (q : Int) k HRUN.out hk7 (by omega) (by
                      have h1 := HCAN.out
                      rw [HRUN.out, ← HV.out] at h1
                      by_cases hh : l.getD k 0 = 0 ∧ 0 < k
                      · exact Or.inl hh
                      · exact absurd (h1.2 hh) hcan))
                    clear hcan h8a h8b
                    go_wp2
                    go_quiet (fail)
                    go_wp2
                    go_ret3
                    exact ⟨by rw [HF.out, HBAD.out]; rfl, below_drewN BB _⟩
                · have HP := Lib.hid (putVarF_no [] (numB_false (n := (V : Int)) (by omega)))
                  rw [HP.out] at ho1 ⊢
                  have HBAD := Lib.hid (getVarL_bad l (q : Int) k HRUN.out hk7 (by omega) (by rw [← HV.out]; omega))
                  go_wp2
                  go_quiet (fail)
                  go_wp2
                  go_ret3
                  exact ⟨by rw [HF.out, HBAD.out]; rfl, below_drewN BB _⟩
          · have HMORE := Lib.hid (vrun_more l k hkr (by rw [HD.out]; omega) (by rw [HGX.out]; omega))
            have hXi : (128 : Int) ≤ (X : Int) := by omega
            go_wp2
            go_roundw
            case rel => exact ⟨k + 1, by omega, by omega, HMORE.out, by go_num, hb⟩
            case measure => simp [intOf]; omega
        · have HLONG := Lib.hid (getVarL_long l (q : Int) (by rw [HD.out]; omega))
          have q1 : (((q : Int) + (k : Int)) == (n : Int)) = true := beq_iff_eq.2 (by omega)
          go_wp2
          go_ret3
          exact ⟨by rw [HF.out, HLONG.out]; rfl, hb⟩
      · obtain rfl : k = 7 := by omega
        have HLONG := Lib.hid (getVarL_long l (q : Int) (by omega))
        go_wp2
        all_goals
          go_ret3
          exact ⟨by rw [HF.out, HLONG.out]; rfl, hb⟩
  · have HF := Lib.hid (getVarF_out zs (p := p) (by rw [hL.out]; omega))
    by_cases h1 : 0 ≤ p
    · have h2 : (n : Int) ≤ p := by omega
      clear h0
      go_enter Try.func63, Try.ntmps63
      go_wp2
      go_ret3
      exact ⟨by rw [HF.out]; rfl, Below.refl _ _⟩
    · clear h0
      go_enter Try.func63, Try.ntmps63
      go_wp2
      go_ret3
      exact ⟨by rw [HF.out]; rfl, Below.refl _ _⟩

set_option maxRecDepth 100000 in
set_option maxHeartbeats 1600000 in
theorem getVar_impl (a : Option Addr) (n cap : Nat) (zs : List Int) (p : Int) (w : World) (h : Rd (encI .u8) 1 w a n cap zs) (g0 : ∀ y ∈ zs, In8 y) (g1 : In64 p) (hn : n ≤ 4611686018427387904) :
    Calls Try.prog 64 #[.slice a n cap, .int .i64 p] w fun e w' => e = .returned (.tuple #[.int .i64 (getVarF zs p).1, .int .i64 (getVarF zs p).2.1, .bool (getVarF zs p).2.2]) ∧ Below w.heap.size w w' := by
  have hL := Lib.hid h.len
  have hm := h.max
  have hle := h.le
  unfold maxLen at hm
  unfold In64 at g1
  by_cases h0 : 0 ≤ p ∧ p < (n : Int)
  · obtain ⟨h1, h2⟩ := h0
    obtain ⟨b1, off1, rfl, hbl1, hc1⟩ := h.ints (by omega)
    obtain ⟨q, rfl⟩ := Int.eq_ofNat_of_zero_le h1
    have HF := Lib.hid (getVarF_in zs (q := q) (by rw [hL.out]; omega))
    have HC := Lib.hid hc1
    clear hc1 h
    have hdl : (zs.drop q).length = n - q := by rw [List.length_drop, hL.out]
    have HD := Lib.hid hdl
    clear hdl
    have hg : ∀ k, (zs.drop q).getD k 0 = zs.getD (q + k) 0 := by intro k; simp [List.getD]
    have HG := Lib.hid hg
    clear hg
    obtain ⟨l, hl⟩ : ∃ l, l = zs.drop q := ⟨_, rfl⟩
    have HLL := Lib.hid hl
    rw [← hl] at HF HD HG
    clear hl
    have hqn : q < n := by omega
    have hd16 : decide (n ≤ q) = false := decide_eq_false (by omega)
    go_enter Try.func64, Try.ntmps64
    go_wp2
    go_loopw [7, 8] (fun v i wr => ∃ k : Nat, k ≤ 7 ∧ k ≤ vrun l ∧ i = .int .i64 k ∧ v = .int .i64 (vval (l.take k) : Nat) ∧ Below w.heap.size w wr) (fun _ i _ => 7 - (intOf i).toNat)
    case atStart => exact ⟨0, by omega, Nat.zero_le _, rfl, rfl, Below.refl _ _⟩
    case round =>
      obtain ⟨k, hk, hkr, rfl, rfl, hb⟩ := hrel
      have hvr := vrun_le l
      by_cases hk7 : k < 7
      · by_cases hkl : q + k < n
        · have hklen : k < l.length := by rw [HD.out]; omega
          have HST := Lib.hid (vval_step l k hklen)
          have hV1 := vval_take_lt l (k + 1) (by omega)
          have hV0 := vval_take_lt l k (by omega)
          obtain ⟨hx0, hx1⟩ := in8_getD g0 (q + k)
          have hcell1 : wr.cell? ⟨b1, off1 + (q + k), none⟩ = some (.int .u8 (zs[q + k]?.getD 0)) := (hb.cell (p := ⟨b1, off1 + (q + k), none⟩) hbl1).trans (by simpa [List.getD] using HC.out (q + k) hkl)
          obtain ⟨X, hX⟩ : ∃ X : Nat, zs[q + k]?.getD 0 = (X : Int) := Int.eq_ofNat_of_zero_le hx0
          have hGX : l.getD k 0 = (X : Int) := by rw [HG.out k]; simpa [List.getD] using hX
          have HGX := Lib.hid hGX
          rw [hX] at hcell1 hx1
          clear hX hGX hx0 hklen
          obtain ⟨V, hV⟩ : ∃ V, V = vval (l.take k) := ⟨_, rfl⟩
          rw [← hV] at hV0 ⊢
          have HV := Lib.hid hV
          clear hV
          obtain ⟨V2, hV2⟩ : ∃ V2, V2 = vval (l.take (k + 1)) := ⟨_, rfl⟩
          rw [← hV2] at hV1
          have HV2 := Lib.hid hV2
          clear hV2
          obtain ⟨D, hD⟩ : ∃ D, D = X % 128 * 128 ^ k := ⟨_, rfl⟩
          have hVD : V2 = V + D := by
            rw [HV2.out, HST.out, ← HV.out, HGX.out, hD, Int.toNat_natCast]
          have HDD := Lib.hid hD
          clear hD
          have hDb : D < 562949953421312 := Nat.lt_of_le_of_lt (by rw [hVD]; exact Nat.le_add_left _ _) hV1
          have hsum : (V : Int) + (D : Int) = (V2 : Int) := by rw [hVD]; simp
          have e0 : (X : Int) % 128 * 2 ^ (7 * k) = (D : Int) := by
            rw [HDD.out, Int.pow_mul]; simp
          have hsh : wrap64 ((X : Int) % 128 * 2 ^ (7 * k)) = (D : Int) := by
            rw [e0]; exact IntWalk.wrap64_in _ ⟨by clear e0; omega, by clear e0; omega⟩
          clear e0
          have HVD := Lib.hid hVD
          clear hVD
          by_cases hX : X < 128
          · have HRUN := Lib.hid (vrun_eq l k hkr (by rw [HGX.out]; omega))
            by_cases hbad : (X = 0 ∧ 0 < k) ∨ 281474976710655 < V2
            · have HBAD := Lib.hid (getVarL_bad l (q : Int) k HRUN.out hk7 (by rw [HD.out]; omega) (by rw [HGX.out, ← HV2.out]; omega))
              go_wp2
              all_goals
                go_ret3
                exact ⟨by rw [HF.out, HBAD.out]; rfl, hb⟩
            · have HGOOD := Lib.hid (getVarL_good l (q : Int) k HRUN.out hk7 (by rw [HD.out]; omega) (by rw [HGX.out, ← HV2.out]; omega))
              by_cases hX0 : X = 0
              · obtain rfl : k = 0 := by omega
                subst hX0
                have hcell0 : wr.cell? ⟨b1, off1 + q, none⟩ = some (.int .u8 0) := by simpa using hcell1
                go_wp2
                go_ret3
                have hv : V2 = V := by rw [HVD.out, HDD.out]; simp
                exact ⟨by rw [HF.out, HGOOD.out, ← HV2.out, hv]; simp, hb⟩
              · have hX1 : 0 < X := by omega
                go_wp2
                go_ret3
                exact ⟨by rw [HF.out, HGOOD.out, ← HV2.out]; rfl, hb⟩
          · have HMORE := Lib.hid (vrun_more l k hkr (by rw [HD.out]; omega) (by rw [HGX.out]; omega))
            go_wp2
            go_roundw
            case rel => exact ⟨k + 1, by omega, HMORE.out, by go_num, by rw [← HV2.out], hb⟩
            case measure => simp [intOf]; omega
        · have HLONG := Lib.hid (getVarL_long l (q : Int) (by rw [HD.out]; have := HD.out; omega))
          have hki : (n : Int) ≤ (q : Int) + (k : Int) := by omega
          have hkf : decide ((q : Int) + (k : Int) < (n : Int)) = false := decide_eq_false (by omega)
          have hkg : decide (q + k < n) = false := decide_eq_false (by omega)
          go_wp2
          go_ret3
          exact ⟨by rw [HF.out, HLONG.out]; rfl, hb⟩
      · obtain rfl : k = 7 := by omega
        have HLONG := Lib.hid (getVarL_long l (q : Int) (by omega))
        go_wp2
        go_ret3
        exact ⟨by rw [HF.out, HLONG.out]; rfl, hb⟩
  · have HF := Lib.hid (getVarF_out zs (p := p) (by rw [hL.out]; omega))
    by_cases h1 : 0 ≤ p
    · have h2 : (n : Int) ≤ p := by omega
      clear h0
      go_enter Try.func64, Try.ntmps64
      go_wp2
      go_ret3
      exact ⟨by rw [HF.out]; rfl, Below.refl _ _⟩
    · clear h0
      go_enter Try.func64, Try.ntmps64
      go_wp2
      go_ret3
      exact ⟨by rw [HF.out]; rfl, Below.refl _ _⟩
end Go.Proofs.Ytkgalkaafocnjaa
