/- When the encoding of the frame that was read is what stands there. Nothing of the program. -/
import Derived.Test.YtkgalkaafocnjaaFrPlain
namespace Go.Proofs.Ytkgalkaafocnjaa
open Go.RowKit
theorem take_split (l : List Int) (a b : Nat) : l.take (a + b) = l.take a ++ (l.drop a).take b := List.take_add
theorem take2 {l : List Int} (h : 2 ≤ l.length) : l.take 2 = [l.getD 0 0, l.getD 1 0] := by
  match l, h with
  | x :: y :: t, _ => simp
theorem frame_cut {l : List Int} (h : 14 ≤ l.length) (N : Nat) : l.take (20 + N) = ((([l.getD 0 0, l.getD 1 0] ++ (l.drop 2).take 6) ++ (l.drop 8).take 6) ++ (l.drop 14).take 6) ++ (l.drop 20).take N := by
  rw [take_split l 20 N, show (20 : Nat) = 14 + 6 from rfl, take_split l 14 6, show (14 : Nat) = 8 + 6 from rfl, take_split l 8 6, show (8 : Nat) = 2 + 6 from rfl, take_split l 2 6, take2 (by omega)]
theorem head_cut {l : List Int} (h : 8 ≤ l.length) : l.take 8 = [l.getD 0 0, l.getD 1 0] ++ (l.drop 2).take 6 := by
  rw [show (8 : Nat) = 2 + 6 from rfl, take_split l 2 6, take2 (by omega)]
theorem win_len {l : List Int} {p : Nat} (h : p + 6 ≤ l.length) : ((l.drop p).take 6).length = 6 := by rw [List.length_take, List.length_drop]; omega
theorem win_in8 {l : List Int} (h : ∀ y ∈ l, In8 y) (p k : Nat) : ∀ y ∈ (l.drop p).take k, In8 y := fun y hy => h y (List.mem_of_mem_drop (List.mem_of_mem_take hy))
theorem frD_len {l : List Int} (h : 20 + frN l ≤ l.length) : (frD l).length = frN l := by unfold frD; rw [List.length_take, List.length_drop]; omega
theorem frame_same {l : List Int} (h8 : ∀ y ∈ l, In8 y) (hA : l.getD 0 0 = 71) (hH : frH l = crcN (l.take 8)) (hlen : 20 + frN l ≤ l.length) :
    (frameL (l.getD 1 0) (frD l) = l.take (20 + frN l)) ↔ frS l = crcN (frD l) := by
  have e2 : fdig (frN l) = (l.drop 2).take 6 := fix6 (win_len (by omega)) (win_in8 h8 2 6)
  have e8 : fdig (frH l) = (l.drop 8).take 6 := fix6 (win_len (by omega)) (win_in8 h8 8 6)
  have e14 : fdig (frS l) = (l.drop 14).take 6 := fix6 (win_len (by omega)) (win_in8 h8 14 6)
  have hhead : headF (l.getD 1 0) (frN l) = l.take 8 := by rw [head_cut (by omega), hA, ← e2]; rfl
  have hcut := frame_cut (l := l) (by omega) (frN l)
  have hL : frameL (l.getD 1 0) (frD l) = ((l.take 8 ++ (l.drop 8).take 6) ++ fdig (crcN (frD l))) ++ (l.drop 20).take (frN l) := by
    unfold frameL
    rw [frD_len hlen, hhead, ← hH, e8]
    rfl
  rw [hL, hcut, ← head_cut (by omega), ← e14]
  constructor
  · intro h
    have h1 := List.append_cancel_right h
    have h2 := List.append_cancel_left h1
    have h3 := congrArg fixN h2
    have c1 := crcN_le (frD l)
    have c2 : frS l < 281474976710656 := fixN_win l h8 14 6 (Nat.le_refl _)
    rw [fdig_fix (by omega), fdig_fix c2] at h3
    exact h3.symm
  · intro h
    rw [h]
end Go.Proofs.Ytkgalkaafocnjaa
