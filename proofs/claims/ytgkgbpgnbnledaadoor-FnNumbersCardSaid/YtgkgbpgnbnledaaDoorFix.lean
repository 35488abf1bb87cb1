/- GetFix of the program and of the reference: what they compute. -/
import Derived.Test.YtgkgbpgnbnledaaDoorApp
import Derived.Test.YtgkgbpgnbnledaaDoorByteS
namespace Go.Proofs.YtgkgbpgnbnledaaDoor
open Go.RowKit

theorem i64_xor_nat (a b : Nat) (ha : a < 4611686018427387904) (hb : b < 4611686018427387904) : bits .xor .i64 (a : Int) (b : Int) = ((a ^^^ b : Nat) : Int) := by
  have hx : a ^^^ b < 2 ^ 62 := Nat.xor_lt_two_pow (by omega) (by omega)
  show IntKind.i64.wrap ((BitVec.ofInt 64 (a : Int) ^^^ BitVec.ofInt 64 (b : Int)).toNat : Int) = _
  rw [BitVec.toNat_xor, ofInt_u64 a (by omega), ofInt_u64 b (by omega)]
  exact IntWalk.i64_in _ (by omega)
theorem i64_or_nat (a b : Nat) (ha : a < 4611686018427387904) (hb : b < 4611686018427387904) : bits .or .i64 (a : Int) (b : Int) = ((a ||| b : Nat) : Int) := by
  have hx : a ||| b < 2 ^ 62 := Nat.or_lt_two_pow (by omega) (by omega)
  show IntKind.i64.wrap ((BitVec.ofInt 64 (a : Int) ||| BitVec.ofInt 64 (b : Int)).toNat : Int) = _
  rw [BitVec.toNat_or, ofInt_u64 a (by omega), ofInt_u64 b (by omega)]
  exact IntWalk.i64_in _ (by omega)
theorem shl8_or (n x : Nat) (hx : x < 256) : n * 256 ||| x = n * 256 + x := by
  have := Nat.shiftLeft_add_eq_or_of_lt (i := 8) (b := x) (by omega) n
  rw [Nat.shiftLeft_eq] at this
  exact this.symm

/-- Six bytes as a number. -/
def fixN (l : List Int) : Nat := l.foldl (fun n y => n * 256 + y.toNat) 0
theorem fixN_snoc (l : List Int) (y : Int) : fixN (l ++ [y]) = fixN l * 256 + y.toNat := by simp [fixN, List.foldl_append]
theorem fixN_aux : ∀ (l : List Int), (∀ y ∈ l, In8 y) → ∀ n : Nat, l.foldl (fun (n : Nat) (y : Int) => n * 256 + y.toNat) n < (n + 1) * 256 ^ l.length := by
  intro l
  induction l with
  | nil => intro _ n; simp
  | cons y r ih =>
    intro h n
    have h2 := h y (by simp)
    unfold In8 at h2
    have h1 := ih (fun z hz => h z (by simp [hz])) (n * 256 + y.toNat)
    rw [List.foldl_cons, List.length_cons, Nat.pow_succ]
    have h3 : (n * 256 + y.toNat + 1) * 256 ^ r.length ≤ ((n + 1) * 256) * 256 ^ r.length := Nat.mul_le_mul_right _ (by omega)
    rw [show (n + 1) * (256 ^ r.length * 256) = ((n + 1) * 256) * 256 ^ r.length from by rw [Nat.mul_comm (256 ^ r.length) 256, Nat.mul_assoc]]
    omega
theorem fixN_lt (l : List Int) (h : ∀ y ∈ l, In8 y) : fixN l < 256 ^ l.length := by
  have := fixN_aux l h 0
  unfold fixN; omega
def getFixF (zs : List Int) (p : Int) : Int × Bool := if p < 0 ∨ (zs.length : Int) - 6 < p then (0, false) else (((fixN ((zs.drop p.toNat).take 6) : Nat) : Int), true)
theorem getFixF_no (zs : List Int) {p : Int} (h : p < 0 ∨ (zs.length : Int) - 6 < p) : getFixF zs p = (0, false) := by unfold getFixF; rw [if_pos h]
theorem getFixF_yes (zs : List Int) {p : Nat} (h : p + 6 ≤ zs.length) : getFixF zs (p : Int) = (((fixN ((zs.drop p).take 6) : Nat) : Int), true) := by
  unfold getFixF; rw [if_neg (by omega)]; rfl
theorem win_snoc (zs : List Int) (p k : Nat) (h : p + k < zs.length) : (zs.drop p).take (k + 1) = (zs.drop p).take k ++ [zs.getD (p + k) 0] := by
  have h' : k < (zs.drop p).length := by simp; omega
  rw [List.take_succ_eq_append_getElem h']
  simp [List.getD, h]
theorem in8_getD {zs : List Int} (h : ∀ y ∈ zs, In8 y) (j : Nat) : 0 ≤ zs[j]?.getD 0 ∧ zs[j]?.getD 0 ≤ 255 := by
  by_cases hj : j < zs.length
  · have := h zs[j] (List.getElem_mem hj); unfold In8 at this; simpa [hj] using this
  · simp [hj]
theorem in8_win {zs : List Int} (h : ∀ y ∈ zs, In8 y) (p k : Nat) : ∀ y ∈ (zs.drop p).take k, In8 y := fun y hy => h y (List.mem_of_mem_drop (List.mem_of_mem_take hy))
theorem fixN_win (zs : List Int) (h : ∀ y ∈ zs, In8 y) (p k : Nat) (hk : k ≤ 6) : fixN ((zs.drop p).take k) < 281474976710656 := by
  have h1 := fixN_lt _ (in8_win h p k)
  have h2 : ((zs.drop p).take k).length ≤ 6 := by rw [List.length_take]; omega
  have h3 : 256 ^ ((zs.drop p).take k).length ≤ 256 ^ 6 := Nat.pow_le_pow_right (by omega) h2
  omega
theorem fixN_win5 (zs : List Int) (h : ∀ y ∈ zs, In8 y) (p k : Nat) (hk : k ≤ 5) : fixN ((zs.drop p).take k) < 1099511627776 := by
  have h1 := fixN_lt _ (in8_win h p k)
  have h2 : ((zs.drop p).take k).length ≤ 5 := by rw [List.length_take]; omega
  have h3 : 256 ^ ((zs.drop p).take k).length ≤ 256 ^ 5 := Nat.pow_le_pow_right (by omega) h2
  omega

theorem fix_step {zs : List Int} {q k F X : Nat} (hs : (zs.drop q).take (k + 1) = (zs.drop q).take k ++ [zs.getD (q + k) 0]) (hF : F = fixN ((zs.drop q).take k)) (hX : zs[q + k]?.getD 0 = (X : Int)) :
    ((fixN ((zs.drop q).take (k + 1)) : Nat) : Int) = (F : Int) * 256 + (X : Int) := by
  rw [hs, fixN_snoc, ← hF]
  have : zs.getD (q + k) 0 = (X : Int) := by simpa [List.getD] using hX
  rw [this]
  simp

set_option maxRecDepth 100000 in
set_option maxHeartbeats 800000 in
theorem getFix_impl (p : Int) (a : Option Addr) (n cap : Nat) (zs : List Int) (w : World) (h : Rd (encI .u8) 1 w a n cap zs) (g0 : ∀ y ∈ zs, In8 y) (g1 : In64 p) :
    Calls Tryd.prog 39 #[.slice a n cap, .int .i64 p] w fun e w' => e = .returned (.tuple #[.int .i64 (getFixF zs p).1, .bool (getFixF zs p).2]) ∧ Below w.heap.size w w' := by
  have hL := Lib.hid h.len
  have hm := h.max
  have hle := h.le
  unfold maxLen at hm
  unfold In64 at g1
  by_cases h0 : 0 ≤ p ∧ p ≤ (n : Int) - 6
  · obtain ⟨h1, h2⟩ := h0
    obtain ⟨b1, off1, rfl, hbl1, hc1⟩ := h.ints (by omega)
    obtain ⟨q, rfl⟩ := Int.eq_ofNat_of_zero_le h1
    have HF := Lib.hid (getFixF_yes zs (p := q) (by rw [hL.out]; omega))
    have HC := Lib.hid hc1
    clear hc1
    have hq6 : q + 6 ≤ n := by omega
    have hqc : q + 6 ≤ cap := by omega
    have hqi : (q : Int) + 6 ≤ (cap : Int) := by omega
    go_enter Tryd.func39, Tryd.ntmps39
    go_wp2
    go_loopw [6, 24] (fun v i wr => ∃ k : Nat, k ≤ 6 ∧ i = .int .i64 k ∧ v = .int .i64 (fixN ((zs.drop q).take k) : Nat) ∧ Below w.heap.size w wr) (fun _ i _ => 6 - (intOf i).toNat)
    case atStart => exact ⟨0, by omega, rfl, rfl, Below.refl _ _⟩
    case round =>
      obtain ⟨k, hk, rfl, rfl, hb⟩ := hrel
      by_cases hlt : k < 6
      · have hcell1 : wr.cell? ⟨b1, off1 + q + k, none⟩ = some (.int .u8 (zs[q + k]?.getD 0)) := by
          rw [Nat.add_assoc]; exact (hb.cell (p := ⟨b1, off1 + (q + k), none⟩) hbl1).trans (by simpa [List.getD] using HC.out (q + k) (by omega))
        obtain ⟨hx0, hx1⟩ := in8_getD g0 (q + k)
        have hN := fixN_win5 zs g0 q k (by omega)
        have HS := Lib.hid (win_snoc zs q k (by rw [hL.out]; omega))
        obtain ⟨F, hF⟩ : ∃ F, F = fixN ((zs.drop q).take k) := ⟨_, rfl⟩
        obtain ⟨X, hX⟩ : ∃ X : Nat, zs[q + k]?.getD 0 = (X : Int) := Int.eq_ofNat_of_zero_le hx0
        rw [← hF] at hN
        have HX := Lib.hid hX
        have HFF := Lib.hid hF
        rw [hX] at hcell1 hx1
        rw [← hF]
        clear hX hF hx0
        have hor : bits .or .i64 ((F : Int) * 256) (X : Int) = (F : Int) * 256 + (X : Int) := by
          have := i64_or_nat (F * 256) X (by omega) (by omega)
          rw [shl8_or F X (by omega)] at this
          simpa using this
        have hki : (k : Int) < 6 := by omega
        go_wp2
        go_roundw
        case rel => exact ⟨k + 1, by omega, by go_num, by rw [fix_step HS.out HFF.out HX.out], hb⟩
        case measure => simp [intOf]; omega
      · obtain rfl : k = 6 := by omega
        go_wp2
        go_ret2
        exact ⟨by rw [HF.out]; rfl, hb⟩
  · have HF := Lib.hid (getFixF_no zs (p := p) (by rw [hL.out]; omega))
    by_cases h1 : 0 ≤ p
    · have h2 : (n : Int) - 6 < p := by omega
      clear h0
      go_enter Tryd.func39, Tryd.ntmps39
      go_wp2
      go_ret2
      exact ⟨by rw [HF.out]; rfl, Below.refl _ _⟩
    · clear h0
      go_enter Tryd.func39, Tryd.ntmps39
      go_wp2
      go_ret2
      exact ⟨by rw [HF.out]; rfl, Below.refl _ _⟩
end Go.Proofs.YtgkgbpgnbnledaaDoor
