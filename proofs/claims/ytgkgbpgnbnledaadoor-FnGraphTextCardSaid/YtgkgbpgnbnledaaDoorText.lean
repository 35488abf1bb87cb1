/- Texts: cut at a byte, decimal numerals, read again. Lists of bytes; no program. -/
import Derived.Lib.SplitLaws
import Derived.Lib.IndexBytes
import Derived.Lib.AtoiAll
import Derived.Lib.ItoaNum
namespace Go.Proofs.YtgkgbpgnbnledaaDoor
open Go.Lib
/-- A text cut at each c. -/
def cutAt (c : UInt8) : List UInt8 → List (List UInt8)
  | [] => [[]]
  | b :: l => if b = c then [] :: cutAt c l else match cutAt c l with
    | [] => [[b]]
    | p :: r => (b :: p) :: r
theorem cutAt_ne (c : UInt8) : ∀ l, cutAt c l ≠ []
  | [] => by simp [cutAt]
  | b :: l => by
    unfold cutAt
    split
    · simp
    · split <;> simp
theorem cutAt_hit {c : UInt8} : ∀ {p : List UInt8} (r : List UInt8), (∀ x ∈ p, x ≠ c) → cutAt c (p ++ c :: r) = p :: cutAt c r
  | [], r, _ => by simp [cutAt]
  | b :: p, r, h => by
    have hb := h b (by simp)
    have ih := cutAt_hit r (fun x hx => h x (List.mem_cons_of_mem _ hx))
    rw [List.cons_append, cutAt, if_neg hb, ih]
theorem cutAt_none {c : UInt8} : ∀ {p : List UInt8}, (∀ x ∈ p, x ≠ c) → cutAt c p = [p]
  | [], _ => rfl
  | b :: p, h => by
    have hb := h b (by simp)
    have ih := cutAt_none (fun x hx => h x (List.mem_cons_of_mem _ hx))
    rw [cutAt, if_neg hb, ih]
theorem cutAt_len (c : UInt8) : ∀ l, (cutAt c l).length ≤ l.length + 1
  | [] => by simp [cutAt]
  | b :: l => by
    have ih := cutAt_len c l
    unfold cutAt
    split
    · simp; omega
    · split
      · simp
      · rename_i h; rw [h] at ih; simp at ih ⊢; omega
theorem cutAt_mem_len (c : UInt8) : ∀ l, ∀ p ∈ cutAt c l, p.length ≤ l.length
  | [], p, h => by simp [cutAt] at h; subst h; simp
  | b :: l, p, h => by
    have ih := cutAt_mem_len c l
    unfold cutAt at h
    split at h
    · rcases List.mem_cons.1 h with rfl | h
      · simp
      · have := ih p h; simp; omega
    · split at h
      · rw [List.mem_singleton.1 h]; simp
      · rename_i q r e
        rw [e] at ih
        rcases List.mem_cons.1 h with rfl | h
        · have := ih q (by simp); simp; omega
        · have := ih p (List.mem_cons_of_mem _ h); simp; omega
theorem indexByte_cons (b c : UInt8) (l : List UInt8) : index (b :: l) [c] = if b = c then 0 else if index l [c] = -1 then -1 else index l [c] + 1 := by
  rw [index]
  by_cases h : b = c
  · subst h; simp [List.isPrefixOf]
  · simp [List.isPrefixOf, h, Ne.symm h]
theorem splitK_cut (c : UInt8) : ∀ s : List UInt8, splitK [c] 0 (s.count c) s = cutAt c s
  | [] => rfl
  | b :: l => by
    have ih := splitK_cut c l
    have hix := indexByte_cons b c l
    by_cases h : b = c
    · subst h
      rw [if_pos rfl] at hix
      rw [List.count_cons_self, splitK, hix, cutAt, if_pos rfl]
      simp [ih]
    · rw [if_neg h] at hix
      rw [List.count_cons_of_ne (by simpa using h), cutAt, if_neg h, ← ih]
      cases hk : l.count c with
      | zero => simp [splitK]
      | succ k =>
        have hne : index l [c] ≠ -1 := fun e => by
          have := count_miss e
          rw [count_one] at this
          omega
        have hge := index_ge l [c]
        obtain ⟨j, hj⟩ : ∃ j : Nat, index l [c] = j := ⟨(index l [c]).toNat, by omega⟩
        rw [if_neg hne, hj] at hix
        rw [splitK, splitK, hix, hj]
        have e1 : ((j : Int) + 1 == -1) = false := by rw [beq_eq_false_iff_ne]; omega
        have e2 : ((j : Int) == -1) = false := by rw [beq_eq_false_iff_ne]; omega
        have e3 : ((j : Int) + 1).toNat = j + 1 := by omega
        simp [e1, e2, e3]
/-- strings.Split at one byte. -/
theorem splitB_cut (s : ByteArray) (c : UInt8) : (splitB ⟨#[c]⟩ 0 (countB s ⟨#[c]⟩) s).map (·.data.toList) = cutAt c s.data.toList := by
  rw [splitB_data]
  show splitK [c] 0 (count s.data.toList [c]) _ = _
  rw [count_one, splitK_cut]
theorem countB_cut (s : ByteArray) (c : UInt8) : countB s ⟨#[c]⟩ + 1 = (cutAt c s.data.toList).length := by
  rw [← splitB_cut, List.length_map, splitB_all ⟨#[c]⟩ (Nat.le_refl 1) 0 _ s rfl]
/-- The round of a loop that cuts: s is cut from 'u' on; no c stands in u..i. -/
def CutTo (c : UInt8) (s : List UInt8) (out : List (List UInt8)) (u i : Nat) : Prop :=
  u ≤ i ∧ i ≤ s.length ∧ cutAt c s = out ++ cutAt c (s.drop u) ∧ ∀ x ∈ (s.drop u).take (i - u), x ≠ c
theorem CutTo.start (c : UInt8) (s : List UInt8) : CutTo c s [] 0 0 := ⟨Nat.le_refl _, Nat.zero_le _, rfl, by simp⟩
theorem CutTo.split {c : UInt8} {s : List UInt8} {out : List (List UInt8)} {u i : Nat} (h : CutTo c s out u i) (hi : i < s.length) : s.drop u = (s.drop u).take (i - u) ++ s[i] :: s.drop (i + 1) := by
  have e := (List.take_append_drop (i - u) (s.drop u)).symm
  rw [List.drop_drop, show u + (i - u) = i by have := h.1; omega, List.drop_eq_getElem_cons hi] at e
  exact e
theorem CutTo.hit {c : UInt8} {s : List UInt8} {out : List (List UInt8)} {u i : Nat} (h : CutTo c s out u i) (hi : i < s.length) (hc : s[i] = c) : CutTo c s (out ++ [(s.drop u).take (i - u)]) (i + 1) (i + 1) := by
  refine ⟨Nat.le_refl _, hi, ?_, by simp⟩
  have e := h.split hi
  rw [h.2.2.1, e, hc, cutAt_hit _ h.2.2.2]
  rw [List.append_assoc, List.singleton_append, ← hc, ← e]
theorem CutTo.miss {c : UInt8} {s : List UInt8} {out : List (List UInt8)} {u i : Nat} (h : CutTo c s out u i) (hi : i < s.length) (hc : s[i] ≠ c) : CutTo c s out u (i + 1) := by
  refine ⟨by have := h.1; omega, hi, h.2.2.1, fun x hx => ?_⟩
  have hu := h.1
  rw [show i + 1 - u = (i - u) + 1 by omega, List.take_succ_eq_append_getElem (by rw [List.length_drop]; omega)] at hx
  rcases List.mem_append.1 hx with hx | hx
  · exact h.2.2.2 x hx
  · rw [List.mem_singleton.1 hx, List.getElem_drop]
    simp only [show u + (i - u) = i by omega]
    exact hc
theorem CutTo.fin {c : UInt8} {s : List UInt8} {out : List (List UInt8)} {u : Nat} (h : CutTo c s out u s.length) : cutAt c s = out ++ [s.drop u] := by
  rw [h.2.2.1, cutAt_none fun x hx => h.2.2.2 x (by rw [List.take_of_length_le (by rw [List.length_drop]; exact Nat.le_refl _)]; exact hx)]
/-! ### Numerals -/
def digit (c : UInt8) : Prop := 48 ≤ c.toNat ∧ c.toNat ≤ 57
instance (c : UInt8) : Decidable (digit c) := by unfold digit; infer_instance
def valD (s : List UInt8) : Nat := s.foldl (fun a c => a * 10 + (c.toNat - 48)) 0
theorem valD_snoc (s : List UInt8) (c : UInt8) : valD (s ++ [c]) = valD s * 10 + (c.toNat - 48) := by simp [valD, List.foldl_append]
theorem digit_of (d : Nat) (h : d < 10) : digit (UInt8.ofNat (48 + d)) ∧ (UInt8.ofNat (48 + d)).toNat - 48 = d := by
  have e : (UInt8.ofNat (48 + d)).toNat = 48 + d := by rw [UInt8.toNat_ofNat']; omega
  unfold digit
  rw [e]
  omega
theorem decDigits_digit (u : Nat) : ∀ c ∈ decDigits u, digit c := by
  induction u using Nat.strongRecOn with
  | _ u ih =>
    rw [decDigits]
    split
    · intro c hc
      rw [List.mem_singleton.1 hc]
      exact (digit_of u (by assumption)).1
    · intro c hc
      rcases List.mem_append.1 hc with hc | hc
      · exact ih (u / 10) (by omega) c hc
      · rw [List.mem_singleton.1 hc]
        exact (digit_of (u % 10) (by omega)).1
theorem valD_decDigits (u : Nat) : valD (decDigits u) = u := by
  induction u using Nat.strongRecOn with
  | _ u ih =>
    rw [decDigits]
    split
    · rename_i h
      have := (digit_of u h).2
      show 0 * 10 + ((UInt8.ofNat (48 + u)).toNat - 48) = u
      omega
    · rw [valD_snoc, ih (u / 10) (by omega), (digit_of (u % 10) (by omega)).2]
      omega
theorem decDigits_ne (u : Nat) : decDigits u ≠ [] := by
  rw [decDigits]
  split <;> simp
theorem decDigits_len15 (u : Nat) (h : u < 1000000000000000) : (decDigits u).length ≤ 15 := by
  rw [decDigits_length]
  by_cases h15 : nDigits u ≤ 15
  · exact h15
  · have : ∀ (k u : Nat), u < 10 ^ (k + 1) → nDigits u ≤ k + 1 := by
      intro k
      induction k with
      | zero => intro u hu; rw [nDigits_small (by simpa using hu)]; omega
      | succ k ih =>
        intro u hu
        by_cases h : u < 10
        · rw [nDigits_small h]; omega
        · rw [nDigits_big h]
          have := ih (u / 10) (by rw [Nat.pow_succ] at hu; omega)
          omega
    exact this 14 u (by simpa using h)
/-- What NumText says. -/
def numL (n : Int) : List UInt8 := if 0 ≤ n ∧ n ≤ 281474976710655 then decDigits n.toNat else []
theorem numL_nat {u : Nat} (h : u ≤ 281474976710655) : numL (u : Int) = decDigits u := by
  unfold numL
  rw [if_pos (by omega)]
  rfl
theorem numL_big {n : Int} (h : ¬ (0 ≤ n ∧ n ≤ 281474976710655)) : numL n = [] := by unfold numL; rw [if_neg h]
theorem numL_len (n : Int) : (numL n).length ≤ 15 := by
  unfold numL
  split
  · exact decDigits_len15 _ (by omega)
  · simp
theorem numL_digit (n : Int) : ∀ c ∈ numL n, digit c := by
  unfold numL
  split
  · exact decDigits_digit _
  · simp
/-- What TextNum says. -/
def textNumL (s : List UInt8) : Int × Bool :=
  if 1 ≤ s.length ∧ s.length ≤ 15 ∧ (∀ c ∈ s, digit c) ∧ numL (valD s) = s then (valD s, true) else (0, false)
theorem textNumL_num {u : Nat} (h : u ≤ 281474976710655) : textNumL (decDigits u) = ((u : Int), true) := by
  unfold textNumL
  have h0 := decDigits_ne u
  rw [valD_decDigits, if_pos ⟨by cases hd : decDigits u with | nil => exact absurd hd h0 | cons _ _ => simp, decDigits_len15 u (by omega), decDigits_digit u, numL_nat h⟩]
theorem textNumL_yes {s : List UInt8} {n : Int} (h : textNumL s = (n, true)) : ∃ u : Nat, n = u ∧ u ≤ 281474976710655 ∧ s = decDigits u := by
  unfold textNumL at h
  split at h
  · rename_i hc
    obtain ⟨h1, _, _, h4⟩ := hc
    refine ⟨valD s, by injection h with h _; exact h.symm, ?_, ?_⟩
    · refine Decidable.byContradiction fun hn => ?_
      rw [numL_big (by omega)] at h4
      rw [← h4] at h1
      simp at h1
    · have : valD s ≤ 281474976710655 := by
        refine Decidable.byContradiction fun hn => ?_
        rw [numL_big (by omega)] at h4
        rw [← h4] at h1
        simp at h1
      rw [numL_nat this] at h4
      exact h4.symm
  · injection h with _ h
    cases h
theorem textNumL_no {s : List UInt8} {n : Int} (h : textNumL s = (n, false)) : n = 0 := by
  unfold textNumL at h
  split at h
  · injection h with _ h; cases h
  · injection h with h _; exact h.symm
theorem foldD_ge (s : List UInt8) : ∀ a : Nat, a ≤ s.foldl (fun a c => a * 10 + (c.toNat - 48)) a := by
  induction s with
  | nil => intro a; exact Nat.le_refl _
  | cons c s ih => intro a; have := ih (a * 10 + (c.toNat - 48)); simp only [List.foldl_cons]; omega
theorem parse_digits : ∀ (s : List UInt8) (a : Nat), (∀ c ∈ s, digit c) → s.foldl (fun a c => a * 10 + (c.toNat - 48)) a < 1000000000000000000 → parseUint10 a s = .ok (s.foldl (fun a c => a * 10 + (c.toNat - 48)) a)
  | [], a, _, _ => rfl
  | c :: s, a, h, hb => by
    have hc := h c (by simp)
    simp only [List.foldl_cons] at hb ⊢
    have hge := foldD_ge s (a * 10 + (c.toNat - 48))
    rw [parseUint10, if_pos (show 48 ≤ c.toNat ∧ c.toNat ≤ 57 from hc), if_neg (by omega), if_neg (by omega)]
    exact parse_digits s _ (fun x hx => h x (List.mem_cons_of_mem _ hx)) hb
theorem atoi_num {u : Nat} (h : u ≤ 281474976710655) : atoiAll (decDigits u) = .ok (u : Int) := by
  have h0 := decDigits_ne u
  have hd := decDigits_digit u
  have hv := valD_decDigits u
  cases hs : decDigits u with
  | nil => exact absurd hs h0
  | cons c r =>
    rw [hs] at hd hv
    have hc := hd c (by simp)
    unfold digit at hc
    have hm : parseMag (c :: r) = .ok u := by
      unfold parseMag
      rw [if_neg (by simp), parse_digits _ 0 hd (by unfold valD at hv; rw [hv]; omega)]
      unfold valD at hv
      rw [hv]
    unfold atoiAll
    simp only
    rw [if_neg (by omega), hm]
    simp only
    rw [if_neg (by omega), if_neg (by omega), if_neg (by omega)]
theorem textNumL_atoi (s : List UInt8) : textNumL s = match atoiAll s with
    | .ok v => if (0 ≤ v ∧ v ≤ 281474976710655) ∧ numL v = s then (v, true) else (0, false)
    | _ => (0, false) := by
  cases ht : textNumL s with
  | mk n b =>
    cases b with
    | true =>
      obtain ⟨u, rfl, hu, rfl⟩ := textNumL_yes ht
      rw [atoi_num hu]
      simp only
      rw [if_pos ⟨by omega, numL_nat hu⟩]
    | false =>
      obtain rfl := textNumL_no ht
      split
      · rename_i v _
        rw [if_neg]
        rintro ⟨⟨h0, h1⟩, h2⟩
        obtain ⟨u, rfl⟩ := Int.eq_ofNat_of_zero_le h0
        rw [numL_nat (by omega)] at h2
        rw [← h2, textNumL_num (by omega)] at ht
        injection ht with _ ht
        cases ht
      · rfl
end Go.Proofs.YtgkgbpgnbnledaaDoor
