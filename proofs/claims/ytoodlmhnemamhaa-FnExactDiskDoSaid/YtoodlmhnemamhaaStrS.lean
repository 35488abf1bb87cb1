/- Rows of strings: the helpers eqStringS, markText, markStringS, heldStringS of the statements. -/
import Derived.Test.YtoodlmhnemamhaaRows
import Derived.Test.YtoodlmhnemamhaaRowS
import Derived.Test.YtoodlmhnemamhaaOwn
import Derived.Test.YtoodlmhnemamhaaKeep
import Derived.Test.YtoodlmhnemamhaaTxt
namespace Go.Proofs.Ytoodlmhnemamhaa
open Go.RowKit
def encS (s : ByteArray) : List Value := [.string s]
theorem lenS : ∀ x : ByteArray, (encS x).length = 1 := fun _ => rfl
theorem flat_encS (xs : List ByteArray) : xs.flatMap encS = xs.map Value.string := by
  induction xs with
  | nil => rfl
  | cons a r ih => simp [encS, List.flatMap_cons] at *; exact ih
def atS (xs : List ByteArray) (j : Nat) : ByteArray := xs.getD j ⟨#[]⟩
theorem atS_eq (xs : List ByteArray) (j : Nat) (h : j < xs.length) : atS xs j = xs[j] := by simp [atS, List.getD, h]
theorem Rd.strs {w : World} {a : Option Addr} {n cap : Nat} {xs : List ByteArray} (h : Rd encS 1 w a n cap xs) (hn : 0 < n) :
    ∃ b off, a = some ⟨b, off, none⟩ ∧ b < w.heap.size ∧ ∀ j, j < n → w.cell? ⟨b, off + j, none⟩ = some (.string (atS xs j)) := by
  obtain ⟨b, off, ha, hl, hc⟩ := h.spot hn
  refine ⟨b, off, ha, hl, fun j hj => ?_⟩
  have hj' : j < xs.length := by rw [h.len]; exact hj
  have := hc j hj' 0 (.string xs[j]) (by simp [encS])
  rw [atS_eq xs j hj']
  simpa using this
theorem take_succS {xs ys : List ByteArray} {k : Nat} (h : xs.take k = ys.take k) (h1 : k < xs.length) (h2 : k < ys.length) (he : atS xs k = atS ys k) : xs.take (k + 1) = ys.take (k + 1) := by
  rw [List.take_succ_eq_append_getElem h1, List.take_succ_eq_append_getElem h2, h]
  rw [atS_eq xs k h1, atS_eq ys k h2] at he
  rw [he]
/-- A digit's byte. -/
def dgU (d : Nat) : UInt8 := UInt8.ofNat (48 + d)
def mtL (k : Nat) (acc : List UInt8) : List UInt8 := if h : k = 0 then acc else mtL (k / 10) (dgU (k % 10) :: acc)
termination_by k
decreasing_by omega
theorem mtL_zero (acc : List UInt8) : mtL 0 acc = acc := by rw [mtL, dif_pos rfl]
theorem mtL_pos {k : Nat} (h : 0 < k) (acc : List UInt8) : mtL k acc = mtL (k / 10) (dgU (k % 10) :: acc) := by rw [mtL, dif_neg (by omega)]
/-- What markText says. -/
def mtext (k : Int) : ByteArray := if k ≤ 0 then mkB [109, 48] else mkB (109 :: mtL k.toNat [])
theorem conv_one {P : Program} {src e dst : TypeId} (hs : P.underlying src = some (.slice e)) (he : P.underlying e = some (.int .u8)) (hd : P.underlying dst = some .string) (w : World) (g cap : Nat) (x : Int) (hc : w.cell? ⟨g, 0, none⟩ = some (.int .u8 x)) :
    (convert src dst (.slice (some ⟨g, 0, none⟩) 1 cap)).run P w = .ok (.string (mkB [UInt8.ofNat x.toNat])) w := by
  rw [← strOf_one]
  exact run_convert_bytes_arg w src e hs he g 0 1 cap [x] rfl (fun j hj => by obtain rfl : j = 0 := by omega
                                                                              simpa using hc) dst hd
set_option maxHeartbeats 800000 in
set_option maxRecDepth 100000 in
theorem markText_any (k : Int) (h0 : 0 ≤ k) (h1 : k ≤ 4611686018427387904) (w : World) :
    Calls Try.prog 64 #[.int .i64 k] w fun e w' => e = .returned (.string (mtext k)) ∧ Below w.heap.size w w' := by
  by_cases hk : k ≤ 0
  · have HM := Lib.hid (show mtext k = mkB [109, 48] from if_pos hk)
    go_enter Try.func64, Try.ntmps64
    go_wp2
    go_ret
    exact ⟨by rw [HM.out]; rfl, Below.refl _ _⟩
  · obtain ⟨K, rfl⟩ := Int.eq_ofNat_of_zero_le h0
    have HM := Lib.hid (show mtext (K : Int) = mkB (109 :: mtL K []) from if_neg hk)
    go_enter Try.func64, Try.ntmps64
    go_wp2
    go_loopw [0, 3] (fun q s wr => ∃ (j : Nat) (acc : List UInt8), q = .int .i64 j ∧ s = .string (mkB acc) ∧ mtL j acc = mtL K [] ∧ j * 10 ^ acc.length ≤ 4611686018427387904 ∧ acc.length ≤ 20 ∧ Below w.heap.size w wr) (fun q _ _ => (intOf q).toNat)
    case atStart => exact ⟨K, [], rfl, rfl, rfl, by simp; omega, by simp, Below.refl _ _⟩
    case round =>
      obtain ⟨j, acc, rfl, rfl, hm, hp, hl, hb⟩ := hrel
      have HMM := Lib.hid hm
      have HP := Lib.hid hp
      clear hm hp
      by_cases hj : 0 < j
      · have hi : (0 : Int) < (j : Int) := by omega
        have hal := hb.alloc hb.size (.cells #[.int .u8 (48 + (j : Int) % 10)] 5)
        have hw1 : IntKind.wrap .u8 (48 + (j : Int) % 10) = 48 + (j : Int) % 10 := IntWalk.u8_in _ (by omega)
        have kc := conv_one (P := Try.prog) (src := 22) (dst := 9) Try.underlying22 Try.underlying5 Try.underlying9 (wr.alloc (.cells #[.int .u8 (48 + (j : Int) % 10)] 5)) wr.heap.size 1 (48 + (j : Int) % 10) (by simp [go_sem])
        rw [show UInt8.ofNat (48 + (j : Int) % 10).toNat = dgU (j % 10) from by unfold dgU; congr 1] at kc
        have ka : ¬ 9223372036854775807 < (mkB [dgU (j % 10)]).size + (mkB acc).size := sum_mk (by rw [List.length_singleton]; omega)
        have hjb : j ≤ 4611686018427387904 := Nat.le_trans (Nat.le_mul_of_pos_right _ (Nat.pow_pos (by omega))) HP.out
        have hww : wrap64 ((j : Int) / 10) = ((j / 10 : Nat) : Int) := by rw [IntWalk.wrap64_in _ ⟨by omega, by omega⟩]; omega
        go_wp2
        go_roundw
        case rel =>
          refine ⟨j / 10, dgU (j % 10) :: acc, congrArg (Value.int .i64) (show (j : Int) / 10 = ((j / 10 : Nat) : Int) by omega), by rw [mkB_app]; rfl, by rw [← mtL_pos hj, HMM.out], ?_, ?_, hal⟩
          · have := HP.out
            have h10 : j / 10 * 10 ≤ j := by omega
            rw [List.length_cons, Nat.pow_succ]
            calc j / 10 * (10 ^ acc.length * 10) = j / 10 * 10 * 10 ^ acc.length := by rw [Nat.mul_assoc, Nat.mul_comm 10]
              _ ≤ j * 10 ^ acc.length := Nat.mul_le_mul_right _ h10
              _ ≤ _ := this
          · refine Decidable.byContradiction fun hn => ?_
            simp only [List.length_cons] at hn
            have hl20 : acc.length = 20 := by omega
            have := HP.out
            rw [hl20] at this
            omega
        case measure => simp [intOf]; omega
      · obtain rfl : j = 0 := by omega
        have ka : ¬ 9223372036854775807 < 1 + (mkB acc).size := sum_mk1 (by omega)
        have hm := HMM.out
        rw [mtL_zero] at hm
        rw [← hm] at HM
        clear hm
        go_wp2
        go_ret
        exact ⟨by rw [HM.out, ← lit_mk]; rfl, hb⟩
end Go.Proofs.Ytoodlmhnemamhaa
