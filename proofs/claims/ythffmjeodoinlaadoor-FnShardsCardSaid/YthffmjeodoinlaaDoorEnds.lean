/- EndsOk, IntervalOf, Span of the program and of the reference: what they compute. -/
import Derived.Test.YthffmjeodoinlaaDoorRows
import Derived.Test.YthffmjeodoinlaaDoorLib
namespace Go.Proofs.YthffmjeodoinlaaDoor
open Go.RowKit
def incB : Int → List Int → Option Int
  | l, [] => some l
  | l, e :: r => if e ≤ l then none else incB e r
theorem incB_snoc (xs : List Int) (e : Int) : ∀ l m, incB l xs = some m → incB l (xs ++ [e]) = if e ≤ m then none else some e := by
  induction xs with
  | nil => intro l m h; simp [incB] at h; subst h; simp [incB]
  | cons x r ih =>
    intro l m h
    simp only [incB, List.cons_append] at *
    split at h
    · cases h
    · rw [if_neg (by assumption)]; exact ih _ _ h
theorem incB_app_none (xs ys : List Int) : ∀ l, incB l xs = none → incB l (xs ++ ys) = none := by
  induction xs with
  | nil => intro l h; simp [incB] at h
  | cons x r ih =>
    intro l h
    simp only [incB, List.cons_append] at *
    split at h
    · rw [if_pos (by assumption)]
    · rw [if_neg (by assumption)]; exact ih _ h
theorem take_snocI (zs : List Int) (k : Nat) (h : k < zs.length) : zs.take (k + 1) = zs.take k ++ [zs.getD k 0] := by
  rw [List.take_succ_eq_append_getElem h]; simp [List.getD, h]
theorem incB_step (zs : List Int) (k : Nat) (h : k < zs.length) (m : Int) (hm : incB 0 (zs.take k) = some m) (hlt : ¬ zs.getD k 0 ≤ m) : incB 0 (zs.take (k + 1)) = some (zs.getD k 0) := by
  rw [take_snocI zs k h, incB_snoc _ _ _ _ hm, if_neg hlt]
theorem incB_stop (zs : List Int) (k : Nat) (h : k < zs.length) (m : Int) (hm : incB 0 (zs.take k) = some m) (hlt : zs.getD k 0 ≤ m) : incB 0 zs = none := by
  have h1 : incB 0 (zs.take (k + 1)) = none := by rw [take_snocI zs k h, incB_snoc _ _ _ _ hm, if_pos hlt]
  rw [← List.take_append_drop (k + 1) zs]
  exact incB_app_none _ _ _ h1
def endsB (n : Int) (zs : List Int) : Bool := decide (0 ≤ n) && decide (n ≤ 150) && (incB 0 zs == some n)
theorem endsB_stop (n : Int) {zs : List Int} (h : incB 0 zs = none) : endsB n zs = false := by unfold endsB; rw [h]; simp
theorem endsB_last (n : Int) {zs : List Int} {m : Int} (h : incB 0 zs = some m) : endsB n zs = (decide (0 ≤ n) && decide (n ≤ 150) && (m == n)) := by unfold endsB; rw [h]; simp

set_option maxHeartbeats 800000 in
theorem endsOk_impl (n : Int) (a : Option Addr) (m cap : Nat) (zs : List Int) (w : World) (h : Rd (encI .i64) 1 w a m cap zs) :
    Calls Tryd.prog 19 #[.int .i64 n, .slice a m cap] w fun e w' => e = .returned (.bool (endsB n zs)) ∧ Below w.heap.size w w' := by
  have hL := Lib.hid h.len
  have hm := h.max
  have hle := h.le
  unfold maxLen at hm
  by_cases hr : 0 ≤ n ∧ n ≤ 150
  · obtain ⟨h1, h2⟩ := hr
    go_enter Tryd.func19, Tryd.ntmps19
    go_wp2
    go_loopw [5, 16] (fun l i wr => ∃ (k : Nat) (x : Int), k ≤ m ∧ i = .int .i64 k ∧ l = .int .i64 x ∧ incB 0 (zs.take k) = some x ∧ Below w.heap.size w wr) (fun _ i _ => m - (intOf i).toNat)
    case atStart => exact ⟨0, 0, Nat.zero_le _, rfl, rfl, rfl, Below.refl _ _⟩
    case round =>
      obtain ⟨k, x, hk, rfl, rfl, he, hb⟩ := hrel
      have HE := Lib.hid he
      clear he
      by_cases hlt : k < m
      · obtain ⟨b1, off1, rfl, hbl1, hc1⟩ := h.ints (by omega)
        have hcell1 : wr.cell? ⟨b1, off1 + k, none⟩ = some (.int .i64 (zs[k]?.getD 0)) := (hb.cell (p := ⟨b1, off1 + k, none⟩) hbl1).trans (by simpa [List.getD] using hc1 k hlt)
        have hi1 : (k : Int) < (m : Int) := by omega
        clear hc1 h
        by_cases hx : zs[k]?.getD 0 ≤ x
        · go_wp2
          go_ret
          exact ⟨ret_b (endsB_stop n (incB_stop zs k (by rw [hL.out]; exact hlt) x HE.out (by simpa [List.getD] using hx))).symm, hb⟩
        · go_wp2
          go_roundw
          case rel => exact ⟨k + 1, _, by omega, by go_num, rfl, incB_step zs k (by rw [hL.out]; exact hlt) x HE.out (by simpa [List.getD] using hx), hb⟩
          case measure => simp [intOf]; omega
      · obtain rfl : k = m := by omega
        go_wp2
        go_ret
        have := HE.out
        rw [List.take_of_length_le (by rw [hL.out]; exact Nat.le_refl _)] at this
        exact ⟨ret_b (by rw [endsB_last n this]; simp [h1, h2]), hb⟩
  · have hf : endsB n zs = false := by
      unfold endsB
      by_cases a : 0 ≤ n
      · have b : ¬ n ≤ 150 := fun h => hr ⟨a, h⟩
        simp [b]
      · simp [a]
    have HF := Lib.hid hf
    clear hf
    by_cases a : 0 ≤ n
    · have b : 150 < n := by omega
      clear hr
      go_enter Tryd.func19, Tryd.ntmps19
      go_wp2
      go_ret
      exact ⟨by rw [HF.out]; rfl, Below.refl _ _⟩
    · clear hr
      go_enter Tryd.func19, Tryd.ntmps19
      go_wp2
      go_ret
      exact ⟨by rw [HF.out]; rfl, Below.refl _ _⟩

/-- The interval of a vertex. -/
def lastI (zs : List Int) : Int := zs.getD (zs.length - 1) 0
def cntI (zs : List Int) (v : Int) : Nat := (zs.filter fun e => decide (e ≤ v)).length
def ivI (zs : List Int) (v : Int) : Int := if zs.length = 0 ∨ v < 0 ∨ lastI zs ≤ v then -1 else (cntI zs v : Int)
theorem cntI_le (zs : List Int) (v : Int) (k : Nat) : cntI (zs.take k) v ≤ k := by
  unfold cntI; exact Nat.le_trans (List.length_filter_le _ _) (List.length_take_le _ _)
theorem cntI_hit (zs : List Int) (v : Int) (k : Nat) (h : k < zs.length) (hx : zs.getD k 0 ≤ v) : cntI (zs.take (k + 1)) v = cntI (zs.take k) v + 1 := by
  unfold cntI; rw [take_snocI zs k h, List.filter_append]; simp only [List.filter_cons, List.filter_nil]; rw [if_pos (by simpa using hx)]; simp
theorem cntI_miss (zs : List Int) (v : Int) (k : Nat) (h : k < zs.length) (hx : ¬ zs.getD k 0 ≤ v) : cntI (zs.take (k + 1)) v = cntI (zs.take k) v := by
  unfold cntI; rw [take_snocI zs k h, List.filter_append]; simp only [List.filter_cons, List.filter_nil]; rw [if_neg (by simpa using hx)]; simp
theorem ivI_yes (zs : List Int) (v : Int) (h0 : zs.length ≠ 0) (h1 : ¬ v < 0) (h2 : ¬ lastI zs ≤ v) : ivI zs v = (cntI zs v : Int) := by
  unfold ivI; rw [if_neg (by omega)]
theorem ivI_no (zs : List Int) (v : Int) (h : zs.length = 0 ∨ v < 0 ∨ lastI zs ≤ v) : ivI zs v = -1 := by
  unfold ivI; rw [if_pos h]

set_option maxHeartbeats 800000 in
theorem intervalOf_impl (v : Int) (a : Option Addr) (m cap : Nat) (zs : List Int) (w : World) (h : Rd (encI .i64) 1 w a m cap zs) :
    Calls Tryd.prog 12 #[.slice a m cap, .int .i64 v] w fun e w' => e = .returned (.int .i64 (ivI zs v)) ∧ Below w.heap.size w w' := by
  have hL := Lib.hid h.len
  have hm := h.max
  have hle := h.le
  unfold maxLen at hm
  by_cases h0 : m = 0
  · have HF := Lib.hid (ivI_no zs v (Or.inl (by rw [hL.out, h0])))
    have h0' : ((m : Int) == 0) = true := by simp; omega
    clear h0
    by_cases h1 : v < 0
    · go_enter Tryd.func12, Tryd.ntmps12
      go_wp2
      go_ret
      exact ⟨by rw [HF.out]; rfl, Below.refl _ _⟩
    · go_enter Tryd.func12, Tryd.ntmps12
      go_wp2
      go_ret
      exact ⟨by rw [HF.out]; rfl, Below.refl _ _⟩
  · have h0' : ((m : Int) == 0) = false := by simp; omega
    by_cases h1 : v < 0
    · have HF := Lib.hid (ivI_no zs v (Or.inr (Or.inl h1)))
      go_enter Tryd.func12, Tryd.ntmps12
      go_wp2
      go_ret
      exact ⟨by rw [HF.out]; rfl, Below.refl _ _⟩
    · obtain ⟨b1, off1, rfl, hbl1, hc1⟩ := h.ints (by omega)
      have hlast : w.cell? ⟨b1, off1 + (m - 1), none⟩ = some (.int .i64 (lastI zs)) := by
        have := hc1 (m - 1) (by omega)
        unfold lastI; rw [hL.out]; exact this
      have HC := Lib.hid hc1
      clear hc1 h
      have hmi : (m : Int) - 1 < (m : Int) := by omega
      have hm0 : 0 ≤ (m : Int) - 1 := by omega
      by_cases h2 : lastI zs ≤ v
      · have HF := Lib.hid (ivI_no zs v (Or.inr (Or.inr h2)))
        go_enter Tryd.func12, Tryd.ntmps12
        go_wp2
        go_ret
        exact ⟨by rw [HF.out]; rfl, Below.refl _ _⟩
      · have HF := Lib.hid (ivI_yes zs v (by rw [hL.out]; exact h0) h1 h2)
        go_enter Tryd.func12, Tryd.ntmps12
        go_wp2
        go_loopw [5, 27] (fun c i wr => ∃ (k : Nat), k ≤ m ∧ i = .int .i64 k ∧ c = .int .i64 (cntI (zs.take k) v) ∧ Below w.heap.size w wr) (fun _ i _ => m - (intOf i).toNat)
        case atStart => exact ⟨0, Nat.zero_le _, rfl, rfl, Below.refl _ _⟩
        case round =>
          obtain ⟨k, hk, rfl, rfl, hb⟩ := hrel
          have hcl := cntI_le zs v k
          by_cases hlt : k < m
          · have hcell1 : wr.cell? ⟨b1, off1 + k, none⟩ = some (.int .i64 (zs[k]?.getD 0)) := (hb.cell (p := ⟨b1, off1 + k, none⟩) hbl1).trans (by simpa [List.getD] using HC.out k hlt)
            have hi1 : (k : Int) < (m : Int) := by omega
            by_cases hx : zs[k]?.getD 0 ≤ v
            · have HN := Lib.hid (cntI_hit zs v k (by rw [hL.out]; exact hlt) (by simpa [List.getD] using hx))
              go_wp2
              go_roundw
              case rel => exact ⟨k + 1, by omega, by go_num, by rw [HN.out]; go_num, hb⟩
              case measure => simp [intOf]; omega
            · have HN := Lib.hid (cntI_miss zs v k (by rw [hL.out]; exact hlt) (by simpa [List.getD] using hx))
              go_wp2
              go_roundw
              case rel => exact ⟨k + 1, by omega, by go_num, by rw [HN.out], hb⟩
              case measure => simp [intOf]; omega
          · obtain rfl : k = m := by omega
            go_wp2
            go_ret
            exact ⟨ret_i (by rw [HF.out, List.take_of_length_le (by rw [hL.out]; exact Nat.le_refl _)]), hb⟩

def spanI (zs : List Int) (p : Int) : Int × Int := if p < 0 ∨ (zs.length : Int) ≤ p then (0, 0) else if p = 0 then (0, zs.getD 0 0) else (zs.getD (p - 1).toNat 0, zs.getD p.toNat 0)

set_option maxHeartbeats 400000 in
theorem span_impl (p : Int) (a : Option Addr) (m cap : Nat) (zs : List Int) (w : World) (h : Rd (encI .i64) 1 w a m cap zs) :
    Calls Tryd.prog 20 #[.slice a m cap, .int .i64 p] w fun e w' => e = .returned (.tuple #[.int .i64 (spanI zs p).1, .int .i64 (spanI zs p).2]) ∧ Below w.heap.size w w' := by
  have hL := Lib.hid h.len
  have hm := h.max
  have hle := h.le
  unfold maxLen at hm
  by_cases h0 : 0 ≤ p ∧ p < m
  · obtain ⟨h1, h2⟩ := h0
    obtain ⟨b1, off1, rfl, hbl1, hc1⟩ := h.ints (by omega)
    obtain ⟨q, rfl⟩ := Int.eq_ofNat_of_zero_le h1
    by_cases hq : q = 0
    · subst hq
      have hlast : w.cell? ⟨b1, off1, none⟩ = some (.int .i64 (zs[0]?.getD 0)) := by simpa [List.getD] using hc1 0 (by omega)
      have HF : Hid (spanI zs ((0 : Nat) : Int) = (0, zs[0]?.getD 0)) := by
        show spanI zs ((0 : Nat) : Int) = _
        unfold spanI; rw [hL.out, if_neg (by omega), if_pos (by simp)]
        simp [List.getD]
      clear hc1 h
      have hm0 : 0 < m := by omega
      go_enter Tryd.func20, Tryd.ntmps20
      have hm1 : (0 : Int) < (m : Int) := by omega
      go_wp2
      go_quiet (fail)
      go_wp2
      go_ret2
      exact ⟨by rw [HF.out]; rfl, below_drewN (Below.refl _ _) _⟩
    · have hl1 : w.cell? ⟨b1, off1 + q, none⟩ = some (.int .i64 (zs[q]?.getD 0)) := by simpa [List.getD] using hc1 q (by omega)
      have hl2 : w.cell? ⟨b1, off1 + (q - 1), none⟩ = some (.int .i64 (zs[q - 1]?.getD 0)) := by simpa [List.getD] using hc1 (q - 1) (by omega)
      have HF : Hid (spanI zs (q : Int) = (zs[q - 1]?.getD 0, zs[q]?.getD 0)) := by
        show spanI zs (q : Int) = _
        unfold spanI; rw [hL.out, if_neg (by omega), if_neg (by omega)]
        simp [List.getD, show ((q : Int) - 1).toNat = q - 1 from by omega]
      have hq0 : ((q : Int) == 0) = false := by simp; omega
      have hq1 : 0 ≤ (q : Int) - 1 := by omega
      have hq2 : (q : Int) - 1 < (m : Int) := by omega
      clear hc1 h hq
      go_enter Tryd.func20, Tryd.ntmps20
      go_wp2
      first
      | (go_ret2; exact ⟨by rw [HF.out]; rfl, Below.refl _ _⟩)
      | (go_quiet (fail); go_wp2; go_ret2; exact ⟨by rw [HF.out]; rfl, below_drewN (Below.refl _ _) _⟩)
  · have HF : Hid (spanI zs p = (0, 0)) := by
      show spanI zs p = _
      unfold spanI; rw [hL.out, if_pos (by omega)]
    by_cases h1 : 0 ≤ p
    · have h2 : (m : Int) ≤ p := by omega
      clear h0
      go_enter Tryd.func20, Tryd.ntmps20
      go_wp2
      go_ret2
      exact ⟨by rw [HF.out]; rfl, Below.refl _ _⟩
    · clear h0
      go_enter Tryd.func20, Tryd.ntmps20
      go_wp2
      go_ret2
      exact ⟨by rw [HF.out]; rfl, Below.refl _ _⟩

end Go.Proofs.YthffmjeodoinlaaDoor
