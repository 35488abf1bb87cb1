/- Sorted of the program and of the reference: what they compute. -/
import Derived.Test.YthffmjeodoinlaaLess
import Derived.Test.YthffmjeodoinlaaRecSK
namespace Go.Proofs.Ythffmjeodoinlaa
open Go.RowKit
def lessR (x y : RecR) : Bool := lessB x.a x.b x.c y.a y.b y.c
theorem lessR_impl (x y : RecR) (w : World) : Calls Try.prog 41 #[.agg #[.int .i64 x.a, .int .i64 x.b, .int .i64 x.c], .agg #[.int .i64 y.a, .int .i64 y.b, .int .i64 y.c]] w fun e w' => e = .returned (.bool (lessR x y)) ∧ Below w.heap.size w w' := less_impl _ _ _ _ _ _ _
theorem lessR_spec (x y : RecR) (w : World) : Calls Try.prog 37 #[.agg #[.int .i64 x.a, .int .i64 x.b, .int .i64 x.c], .agg #[.int .i64 y.a, .int .i64 y.b, .int .i64 y.c]] w fun e w' => e = .returned (.bool (lessR x y)) ∧ Below w.heap.size w w' := less_spec _ _ _ _ _ _ _
/-- No record below position k comes before the one ahead of it. -/
def sortP (xs : List RecR) (k : Nat) : Bool := (List.range k).all fun i => decide (i = 0) || !lessR (atRec xs i) (atRec xs (i - 1))
def sortB (xs : List RecR) : Bool := sortP xs xs.length
theorem sortP_one (xs : List RecR) : sortP xs 1 = true := by simp [sortP]
theorem sortP_step {xs : List RecR} {k : Nat} (h : sortP xs k = true) (hl : lessR (atRec xs k) (atRec xs (k - 1)) = false) : sortP xs (k + 1) = true := by
  unfold sortP at *
  rw [List.range_succ, List.all_append, h]
  simp [hl]
theorem sortB_stop {xs : List RecR} {k : Nat} (hk : k < xs.length) (h0 : 0 < k) (hl : lessR (atRec xs k) (atRec xs (k - 1)) = true) : sortB xs = false := by
  unfold sortB sortP
  rw [List.all_eq_false]
  exact ⟨k, by simpa using hk, by have : ¬ k = 0 := by omega
                                  simp [hl, this]⟩
theorem sortB_short {xs : List RecR} {k : Nat} (h : sortP xs k = true) (hk : xs.length ≤ k) : sortB xs = true := by
  unfold sortB sortP at *
  rw [List.all_eq_true] at *
  intro i hi
  exact h i (by simp at *; omega)
-- HERE
set_option maxRecDepth 100000 in
set_option maxHeartbeats 1600000 in
theorem sorted_impl (a : Option Addr) (n cap : Nat) (xs : List RecR) (w : World) (h : Rd encRec 3 w a n cap xs) :
    Calls Try.prog 24 #[.slice a n cap] w fun e w' => e = .returned (.bool (sortB xs)) ∧ Below w.heap.size w w' := by
  have hL := Lib.hid h.len
  have hm := h.max
  have hle := h.le
  unfold maxLen at hm
  go_enter Try.func24, Try.ntmps24
  go_wp2
  go_loopw [3] (fun i wr => ∃ k : Nat, 1 ≤ k ∧ (k ≤ n ∨ k = 1) ∧ i = .int .i64 k ∧ sortP xs k = true ∧ Below w.heap.size w wr) (fun i _ => n - (intOf i).toNat)
  case atStart => exact ⟨1, Nat.le_refl _, Or.inr rfl, rfl, sortP_one xs, Below.refl _ _⟩
  case round =>
    obtain ⟨k, hk1, hk, rfl, he, hb⟩ := hrel
    have HE := Lib.hid he
    clear he
    by_cases hlt : k < n
    · obtain ⟨b, off, rfl, hbl, hc⟩ := h.rowRec (by omega)
      obtain ⟨k0, k1, k2⟩ := hc k hlt
      obtain ⟨l0, l1, l2⟩ := hc (k - 1) (by omega)
      have cb : ∀ o, wr.cell? ⟨b, o, none⟩ = w.cell? ⟨b, o, none⟩ := fun o => hb.cell (p := ⟨b, o, none⟩) hbl
      rw [← cb] at k0 k1 k2 l0 l1 l2
      have hkx : k < xs.length := by rw [hL.out]; exact hlt
      have HS := Lib.hid (fun hl => sortP_step HE.out hl)
      have HT := Lib.hid (fun hl => sortB_stop hkx (by omega) hl)
      have hi1 : (k : Int) < (n : Int) := by omega
      clear hc h cb hk
      generalize hx : atRec xs k = x at *
      generalize hy : atRec xs (k - 1) = y at *
      clear hx hy
      go_wp2_with fail
      have hd1 : IntKind.i64.wrap ((k : Int) - 1) = (k : Int) - 1 := IntWalk.i64_in _ (by omega)
      have hd2 : 0 ≤ (k : Int) - 1 := by omega
      have hd3 : ((k : Int) - 1).toNat = k - 1 := by omega
      have hd4 : (k : Int) - 1 < (n : Int) := by omega
      have hd5 : (k : Int) ≤ (n : Int) := by omega
      have hd6 : (1 : Int) ≤ (k : Int) := by omega
      have hd7 : k ≤ n := by omega
      go_region_held3 (fun w' => w'.cell? ⟨b, off + k * 3, none⟩ = some (.int .i64 x.a) ∧ w'.cell? ⟨b, off + k * 3 + 1, none⟩ = some (.int .i64 x.b) ∧ w'.cell? ⟨b, off + k * 3 + 2, none⟩ = some (.int .i64 x.c) ∧ w'.cell? ⟨b, off + (k - 1) * 3, none⟩ = some (.int .i64 y.a) ∧ w'.cell? ⟨b, off + (k - 1) * 3 + 1, none⟩ = some (.int .i64 y.b) ∧ w'.cell? ⟨b, off + (k - 1) * 3 + 2, none⟩ = some (.int .i64 y.c) ∧ Below wr.heap.size wr w') (first | exact keepd6 (by assumption) | exact keep6 (by assumption) (Nat.le_refl _) (by assumption) | exact ⟨k0, k1, k2, l0, l1, l2, (Below.refl _ _).drew⟩) (first | (go_at_call 41; refine (lessR_impl x y _).mono ?_; rintro e wa ⟨rfl, hba⟩))
      have hb2 : Below wr.heap.size wr _ := tail6 (by assumption)
      have hb3 := hb.trans (hb2.mono hb.size)
      clear hd1 hd2 hd3 hd4 hd5 hd6 hd7
      cases hq : lessR x y with
      | true =>
        have HX := Lib.hid (HT.out hq)
        have HQ := Lib.hid hq
        try rw [HQ.out]
        clear hq HS HT
        go_wp2
        go_ret
        exact ⟨by rw [HX.out] <;> rfl, hb3⟩
      | false =>
        have HX := Lib.hid (HS.out hq)
        have HQ := Lib.hid hq
        try rw [HQ.out]
        clear hq HS HT
        go_wp2
        go_roundw
        case rel => exact ⟨k + 1, by omega, by omega, by go_num, HX.out, hb3⟩
        case measure => simp [intOf]; omega
    · have HX := Lib.hid (sortB_short HE.out (by rw [hL.out]; omega))
      have hge : (n : Int) ≤ (k : Int) := by omega
      clear hlt hk
      go_wp2
      go_ret
      exact ⟨by rw [HX.out] <;> rfl, hb⟩
theorem sorted_impl_k (y : Row RecR) (D : List RecR) (hD : datRecS y = D) (w : World) (g : rdRecS w y) :
    Calls Try.prog 24 #[.slice y.a y.n y.c] w fun e w' => e = .returned (.bool (sortB D)) ∧ Below w.heap.size w w' := by
  subst hD
  exact sorted_impl _ _ _ _ _ g
end Go.Proofs.Ythffmjeodoinlaa
