/- NameOk writes nothing at all. -/
import Derived.Test.YtoodlmhnemamhaaName
import Derived.Deep.QuietTactic
namespace Go.Proofs.Ytoodlmhnemamhaa
open Go.RowKit
/-- Only draws lie between. -/
def Drn (w w' : World) : Prop := ∃ m, w' = w.drewN m
theorem Drn.refl (w : World) : Drn w w := ⟨0, rfl⟩
theorem Drn.more {w w' : World} (h : Drn w w') (q : Nat) : Drn w (w'.drewN q) := by
  obtain ⟨m, rfl⟩ := h
  exact ⟨m + q, World.drewN_drewN _ _ _⟩
theorem Drn.one {w w' : World} (h : Drn w w') : Drn w w'.drew := h.more 1
set_option maxHeartbeats 800000 in
theorem nameOk_impl_q (s : ByteArray) (w : World) (hs : s.size ≤ maxLen) :
    Calls Try.prog 39 #[.string s] w fun e w' => e = .returned (.bool (nameB s)) ∧ Drn w w' := by
  unfold maxLen at hs
  by_cases h1 : 1 ≤ s.size ∧ s.size ≤ 12
  · obtain ⟨h1, h2⟩ := h1
    go_enter Try.func39, Try.ntmps39
    go_wp2
    go_loopw [3] (fun i wr => ∃ k : Nat, k ≤ s.size ∧ i = .int .i64 k ∧ (s.data.toList.take k).all okb = true ∧ Drn w wr) (fun i _ => s.size - (intOf i).toNat)
    case atStart => exact ⟨0, Nat.zero_le _, rfl, rfl, Drn.refl _⟩
    case round =>
      obtain ⟨k, hk, rfl, ha, hb⟩ := hrel
      have HA := Lib.hid ha
      clear ha
      by_cases hlt : k < s.size
      · go_wp2
        all_goals
          first
          | (go_roundw
             case rel =>
               have ho : okb s[k] = true := by
                 unfold okb; rw [decide_eq_true_iff]; (try simp only [bne_eq_false_iff_eq] at *); omega
               exact ⟨k + 1, by omega, by go_num, all_snoc s k hlt HA.out ho, (by first | exact hb | exact hb.more _ | exact hb.one)⟩
             case measure => simp [intOf]; omega)
          | (have ho : okb s[k] = false := by
               unfold okb; rw [decide_eq_false_iff_not]; (try simp only [bne_iff_ne, ne_eq] at *); omega
             go_ret
             exact ⟨by rw [name_not s k hlt ho]; rfl, (by first | exact hb | exact hb.more _ | exact hb.one)⟩)
      · obtain rfl : k = s.size := by omega
        go_wp2
        go_ret
        exact ⟨ret_b (by rw [name_all s HA.out]; simp [h1, h2]), (by first | exact hb | exact hb.more _ | exact hb.one)⟩
  · have hf : nameB s = false := by
      unfold nameB
      by_cases a : 1 ≤ s.size
      · have b : ¬ s.size ≤ 12 := fun h => h1 ⟨a, h⟩
        simp [b]
      · simp [a]
    have HF := Lib.hid hf
    clear hf
    by_cases a : 1 ≤ s.size
    · have b : 12 < s.size := by omega
      clear h1
      go_enter Try.func39, Try.ntmps39
      go_wp2
      go_ret
      exact ⟨by rw [HF.out]; rfl, Drn.refl _⟩
    · clear h1
      go_enter Try.func39, Try.ntmps39
      go_wp2
      go_ret
      exact ⟨by rw [HF.out]; rfl, Drn.refl _⟩
set_option maxHeartbeats 800000 in
theorem nameOk_spec_q (s : ByteArray) (w : World) (hs : s.size ≤ maxLen) :
    Calls Try.prog 37 #[.string s] w fun e w' => e = .returned (.bool (nameB s)) ∧ Drn w w' := by
  unfold maxLen at hs
  go_enter Try.func37, Try.ntmps37
  go_wp2
  go_loopw [3] (fun i wr => ∃ k : Nat, k ≤ s.size ∧ i = .int .i64 k ∧ (s.data.toList.take k).all okb = true ∧ Drn w wr) (fun i _ => s.size - (intOf i).toNat)
  case atStart => exact ⟨0, Nat.zero_le _, rfl, rfl, Drn.refl _⟩
  case round =>
    obtain ⟨k, hk, rfl, ha, hb⟩ := hrel
    have HA := Lib.hid ha
    clear ha
    by_cases hlt : k < s.size
    · go_wp2
      all_goals
        first
        | (go_roundw
           case rel =>
             have ho : okb s[k] = true := by
               unfold okb; rw [decide_eq_true_iff]; (try simp only [bne_eq_false_iff_eq] at *); omega
             exact ⟨k + 1, by omega, by go_num, all_snoc s k hlt HA.out ho, (by first | exact hb | exact hb.more _ | exact hb.one)⟩
           case measure => simp [intOf]; omega)
        | (have ho : okb s[k] = false := by
             unfold okb; rw [decide_eq_false_iff_not]; (try simp only [bne_iff_ne, ne_eq] at *); omega
           go_ret
           exact ⟨by rw [name_not s k hlt ho]; rfl, (by first | exact hb | exact hb.more _ | exact hb.one)⟩)
    · obtain rfl : k = s.size := by omega
      go_wp2
      all_goals
        go_ret
        refine ⟨ret_b ?_, (by first | exact hb | exact hb.more _ | exact hb.one)⟩
        rw [name_all s HA.out]
        by_cases a : 1 ≤ s.size
        · by_cases b : s.size ≤ 12
          · have b' : (s.size : Int) ≤ 12 := by omega
            first | (simp [a, b, b']; done) | omega
          · have b' : ¬ (s.size : Int) ≤ 12 := by omega
            first | (simp [a, b, b']; done) | omega
        · first | (simp [a]; done) | omega
end Go.Proofs.Ytoodlmhnemamhaa
