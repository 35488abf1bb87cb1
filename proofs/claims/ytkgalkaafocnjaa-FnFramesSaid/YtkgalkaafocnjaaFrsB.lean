/- One byte of the frames turned: the numbers of the law's second loop. No program. -/
import Derived.Test.YtkgalkaafocnjaaFrsQ
import Derived.Laws.BitsAllLaws
namespace Go.Proofs.Ytkgalkaafocnjaa
open Go.RowKit
theorem xor_ne8 {v : Int} {y : Int} (hv : In8 v) (h0 : 0 ≤ y) (h1 : y < 255) : In8 (bits .xor .u8 v (1 + y)) ∧ bits .xor .u8 v (1 + y) ≠ v := by
  obtain ⟨hv0, hv1⟩ := hv
  obtain ⟨V, rfl⟩ := Int.eq_ofNat_of_zero_le hv0
  obtain ⟨Y, rfl⟩ := Int.eq_ofNat_of_zero_le h0
  have e : bits .xor .u8 (V : Int) (1 + (Y : Int)) = ((V ^^^ (1 + Y) : Nat) : Int) := by
    have := u8_xor_nat V (1 + Y) (by omega) (by omega)
    rwa [show ((1 + Y : Nat) : Int) = 1 + (Y : Int) by omega] at this
  have hx : V ^^^ (1 + Y) < 256 := Nat.xor_lt_two_pow (n := 8) (by omega) (by omega)
  rw [e]
  refine ⟨⟨by omega, by omega⟩, fun h => ?_⟩
  have h2 : V ^^^ (1 + Y) = V := by omega
  have h3 : V ^^^ (1 + Y) = V ^^^ 0 := by rw [h2, Nat.xor_zero]
  have h4 := xor_cancel_left h3
  omega
theorem cat_next {D : List (Int × List Int)} {q : Nat} (hq : q < D.length) {xk : Int} {xd : List Int} (hX : D[q] = (xk, xd)) : (catF (D.take (q + 1))).length = (catF (D.take q)).length + 20 + xd.length := by
  rw [List.take_succ_eq_append_getElem hq, catF_snoc, List.length_append, frameL_len, hX]
  simp only
  omega
theorem cat_pre {D : List (Int × List Int)} {q : Nat} : (catF (D.take q)).length ≤ (catF D).length := by
  have e : catF D = catF (D.take q) ++ catF (D.drop q) := by unfold catF; rw [← List.flatMap_append, List.take_append_drop]
  rw [e, List.length_append]; omega
/-- What the round needs of a turned byte. -/
theorem bent_law {D : List (Int × List Int)} (h : ∀ f ∈ D, rightD f) {q : Nat} (hq : q < D.length) {xk : Int} {xd : List Int} (hX : D[q] = (xk, xd)) {X : Nat} (hx : X < 20 + xd.length) {y : Int} (h0 : 0 ≤ y) (h1 : y < 255) :
    (catF (D.take q)).length + X < (catF D).length ∧ In8 ((catF D).getD ((catF (D.take q)).length + X) 0) ∧ In8 (bits .xor .u8 ((catF D).getD ((catF (D.take q)).length + X) 0) (1 + y)) ∧
    framesReadF ((catF D).set ((catF (D.take q)).length + X) (bits .xor .u8 ((catF D).getD ((catF (D.take q)).length + X) 0) (1 + y))) = (D.take q, ((catF (D.take q)).length : Int)) := by
  have hlt : (catF (D.take q)).length + X < (catF D).length := by
    have e1 := cat_next hq hX
    have e2 := cat_pre (D := D) (q := q + 1)
    omega
  have h8 : ∀ z ∈ catF D, In8 z := fun z hz => by
    obtain ⟨f, hf, hz⟩ := List.mem_flatMap.1 hz
    exact frameL_in8 (h f hf).1.1 (h f hf).1.2 (h f hf).2.1 z hz
  have hv : In8 ((catF D).getD ((catF (D.take q)).length + X) 0) := by
    simp only [List.getD, List.getElem?_eq_getElem hlt, Option.getD_some]
    exact h8 _ (List.getElem_mem hlt)
  obtain ⟨hz, hne⟩ := xor_ne8 hv h0 h1
  exact ⟨hlt, hv, hz, framesReadF_bent h hq (by rw [hX]; exact hx) hz (fun e => hne e.symm)⟩
end Go.Proofs.Ytkgalkaafocnjaa
