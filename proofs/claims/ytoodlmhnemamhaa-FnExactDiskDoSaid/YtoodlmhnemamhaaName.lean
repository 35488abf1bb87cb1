/- NameOk of the program and of the reference: what they compute. -/
import Derived.Test.YtoodlmhnemamhaaRows
import Derived.Test.YtoodlmhnemamhaaLib
namespace Go.Proofs.Ytoodlmhnemamhaa
open Go.RowKit
def okb (c : UInt8) : Bool := decide ((97 ≤ (c.toNat : Int) ∧ (c.toNat : Int) ≤ 122) ∨ (48 ≤ (c.toNat : Int) ∧ (c.toNat : Int) ≤ 57) ∨ (c.toNat : Int) = 46)
def nameB (s : ByteArray) : Bool := decide (1 ≤ s.size) && decide (s.size ≤ 12) && s.data.toList.all okb
theorem take_snocB (s : ByteArray) (k : Nat) (h : k < s.size) : s.data.toList.take (k + 1) = s.data.toList.take k ++ [s[k]] := by
  rw [List.take_succ_eq_append_getElem (by simpa using h)]; rfl
theorem all_snoc (s : ByteArray) (k : Nat) (h : k < s.size) (ha : (s.data.toList.take k).all okb = true) (hk : okb s[k] = true) : (s.data.toList.take (k + 1)).all okb = true := by
  rw [take_snocB s k h, List.all_append, ha]; simp [hk]
theorem all_not (s : ByteArray) (k : Nat) (h : k < s.size) (hk : okb s[k] = false) : s.data.toList.all okb = false := by
  rw [List.all_eq_false]
  refine ⟨s[k], ?_, by simp [hk]⟩
  have h' : k < s.data.size := h
  exact Array.mem_toList_iff.2 (Array.getElem_mem h')
theorem name_not (s : ByteArray) (k : Nat) (h : k < s.size) (hk : okb s[k] = false) : nameB s = false := by
  unfold nameB; rw [all_not s k h hk]; simp
theorem name_all (s : ByteArray) (h : (s.data.toList.take s.size).all okb = true) : nameB s = (decide (1 ≤ s.size) && decide (s.size ≤ 12)) := by
  rw [List.take_of_length_le (by simp)] at h
  unfold nameB; rw [h]; simp
set_option maxHeartbeats 800000 in
theorem nameOk_impl (s : ByteArray) (w : World) (hs : s.size ≤ maxLen) :
    Calls Try.prog 39 #[.string s] w fun e w' => e = .returned (.bool (nameB s)) ∧ Below w.heap.size w w' := by
  unfold maxLen at hs
  by_cases h1 : 1 ≤ s.size ∧ s.size ≤ 12
  · obtain ⟨h1, h2⟩ := h1
    go_enter Try.func39, Try.ntmps39
    go_wp2
    go_loopw [3] (fun i wr => ∃ k : Nat, k ≤ s.size ∧ i = .int .i64 k ∧ (s.data.toList.take k).all okb = true ∧ Below w.heap.size w wr) (fun i _ => s.size - (intOf i).toNat)
    case atStart => exact ⟨0, Nat.zero_le _, rfl, rfl, Below.refl _ _⟩
    case round =>
      obtain ⟨k, hk, rfl, ha, hb⟩ := hrel
      have HA := Lib.hid ha
      clear ha
      by_cases hlt : k < s.size
      · go_wp2
        all_goals
          first
          | (go_roundw
             case rel =>
               have ho : okb s[k] = true := by
                 unfold okb; rw [decide_eq_true_iff]; (try simp only [bne_eq_false_iff_eq] at *); omega
               exact ⟨k + 1, by omega, by go_num, all_snoc s k hlt HA.out ho, hb⟩
             case measure => simp [intOf]; omega)
          | (have ho : okb s[k] = false := by
               unfold okb; rw [decide_eq_false_iff_not]; (try simp only [bne_iff_ne, ne_eq] at *); omega
             go_ret
             exact ⟨by rw [name_not s k hlt ho]; rfl, hb⟩)
      · obtain rfl : k = s.size := by omega
        go_wp2
        go_ret
        exact ⟨ret_b (by rw [name_all s HA.out]; simp [h1, h2]), hb⟩
  · have hf : nameB s = false := by
      unfold nameB
      by_cases a : 1 ≤ s.size
      · have b : ¬ s.size ≤ 12 := fun h => h1 ⟨a, h⟩
        simp [b]
      · simp [a]
    have HF := Lib.hid hf
    clear hf
    by_cases a : 1 ≤ s.size
    · have b : 12 < s.size := by omega
      clear h1
      go_enter Try.func39, Try.ntmps39
      go_wp2
      go_ret
      exact ⟨by rw [HF.out]; rfl, Below.refl _ _⟩
    · clear h1
      go_enter Try.func39, Try.ntmps39
      go_wp2
      go_ret
      exact ⟨by rw [HF.out]; rfl, Below.refl _ _⟩
set_option maxHeartbeats 800000 in
theorem nameOk_spec (s : ByteArray) (w : World) (hs : s.size ≤ maxLen) :
    Calls Try.prog 37 #[.string s] w fun e w' => e = .returned (.bool (nameB s)) ∧ Below w.heap.size w w' := by
  unfold maxLen at hs
  go_enter Try.func37, Try.ntmps37
  go_wp2
  go_loopw [3] (fun i wr => ∃ k : Nat, k ≤ s.size ∧ i = .int .i64 k ∧ (s.data.toList.take k).all okb = true ∧ Below w.heap.size w wr) (fun i _ => s.size - (intOf i).toNat)
  case atStart => exact ⟨0, Nat.zero_le _, rfl, rfl, Below.refl _ _⟩
  case round =>
    obtain ⟨k, hk, rfl, ha, hb⟩ := hrel
    have HA := Lib.hid ha
    clear ha
    by_cases hlt : k < s.size
    · go_wp2
      all_goals
        first
        | (go_roundw
           case rel =>
             have ho : okb s[k] = true := by
               unfold okb; rw [decide_eq_true_iff]; (try simp only [bne_eq_false_iff_eq] at *); omega
             exact ⟨k + 1, by omega, by go_num, all_snoc s k hlt HA.out ho, hb⟩
           case measure => simp [intOf]; omega)
        | (have ho : okb s[k] = false := by
             unfold okb; rw [decide_eq_false_iff_not]; (try simp only [bne_iff_ne, ne_eq] at *); omega
           go_ret
           exact ⟨by rw [name_not s k hlt ho]; rfl, hb⟩)
    · obtain rfl : k = s.size := by omega
      go_wp2
      all_goals
        go_ret
        refine ⟨ret_b ?_, hb⟩
        rw [name_all s HA.out]
        by_cases a : 1 ≤ s.size
        · by_cases b : s.size ≤ 12
          · have b' : (s.size : Int) ≤ 12 := by omega
            first | (simp [a, b, b']; done) | omega
          · have b' : ¬ (s.size : Int) ≤ 12 := by omega
            first | (simp [a, b, b']; done) | omega
        · first | (simp [a]; done) | omega
end Go.Proofs.Ytoodlmhnemamhaa
