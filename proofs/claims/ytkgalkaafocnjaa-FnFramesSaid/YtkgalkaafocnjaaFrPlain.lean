/- Reading a frame: the plain function, and when a frame's encoding is what stands there. -/
import Derived.Test.YtkgalkaafocnjaaFrameB
namespace Go.Proofs.Ytkgalkaafocnjaa
open Go.RowKit
def fr0 : Int × List Int := (0, [])
def frN (l : List Int) : Nat := fixN ((l.drop 2).take 6)
def frH (l : List Int) : Nat := fixN ((l.drop 8).take 6)
def frS (l : List Int) : Nat := fixN ((l.drop 14).take 6)
def frD (l : List Int) : List Int := (l.drop 20).take (frN l)
def frBad (l : List Int) : Prop := l.getD 0 0 ≠ 71 ∨ kindB (l.getD 1 0) = false ∨ 60000 < frN l ∨ frH l ≠ crcN (l.take 8)
instance (l : List Int) : Decidable (frBad l) := by unfold frBad; infer_instance
def frameReadL (l : List Int) (p : Int) : (Int × List Int) × Int × Int :=
  if l.length < 14 then (fr0, 0, 2) else if frBad l then (fr0, 0, 3) else if l.length < 20 + frN l then (fr0, 0, 4)
  else if frS l ≠ crcN (frD l) then (fr0, 0, 5) else ((l.getD 1 0, frD l), p + 20 + (frN l : Int), 0)
def frameReadF (zs : List Int) (p : Int) : (Int × List Int) × Int × Int := if p < 0 ∨ (zs.length : Int) < p then (fr0, 0, 1) else frameReadL (zs.drop p.toNat) p
theorem frameReadF_1 {zs : List Int} {p : Int} (h : p < 0 ∨ (zs.length : Int) < p) : frameReadF zs p = (fr0, 0, 1) := if_pos h
theorem frameReadF_in (zs : List Int) {q : Nat} (h : q ≤ zs.length) : frameReadF zs (q : Int) = frameReadL (zs.drop q) q := by unfold frameReadF; rw [if_neg (by omega)]; rfl
theorem frameReadL_2 {l : List Int} (p : Int) (h : l.length < 14) : frameReadL l p = (fr0, 0, 2) := if_pos h
theorem frameReadL_3 {l : List Int} (p : Int) (h : ¬ l.length < 14) (h3 : frBad l) : frameReadL l p = (fr0, 0, 3) := by unfold frameReadL; rw [if_neg h, if_pos h3]
theorem frameReadL_4 {l : List Int} (p : Int) (h : ¬ l.length < 14) (h3 : ¬ frBad l) (h4 : l.length < 20 + frN l) : frameReadL l p = (fr0, 0, 4) := by unfold frameReadL; rw [if_neg h, if_neg h3, if_pos h4]
theorem frameReadL_5 {l : List Int} (p : Int) (h : ¬ l.length < 14) (h3 : ¬ frBad l) (h4 : ¬ l.length < 20 + frN l) (h5 : frS l ≠ crcN (frD l)) : frameReadL l p = (fr0, 0, 5) := by unfold frameReadL; rw [if_neg h, if_neg h3, if_neg h4, if_pos h5]
theorem frameReadL_0 {l : List Int} (p : Int) (h : ¬ l.length < 14) (h3 : ¬ frBad l) (h4 : ¬ l.length < 20 + frN l) (h5 : frS l = crcN (frD l)) : frameReadL l p = ((l.getD 1 0, frD l), p + 20 + (frN l : Int), 0) := by unfold frameReadL; rw [if_neg h, if_neg h3, if_neg h4, if_neg (by simp [h5])]
/-- FrameRead's end. -/
def RetFr (r : (Int × List Int) × Int × Int) (w : World) (en : Ending) (w' : World) : Prop := ∃ (a : Option Addr) (n cap : Nat), en = .returned (.tuple #[.agg #[.int .i64 r.1.1, .slice a n cap], .int .i64 r.2.1, .int .i64 r.2.2]) ∧ OwnI .u8 5 w.heap.size w'.heap.size w' a n cap r.1.2 ∧ Below w.heap.size w w'

theorem step256 (m : Int) (h : 0 ≤ m) : ∃ (q : Int) (b : Nat), q = m / 256 ∧ m % 256 = (b : Int) ∧ m = 256 * q + b ∧ 0 ≤ q := by
  refine ⟨m / 256, (m % 256).toNat, rfl, ?_, ?_, ?_⟩ <;> omega
theorem div_step (m : Int) (k : Nat) : m / 2 ^ (8 * k) / 256 = m / 2 ^ (8 * (k + 1)) := by
  rw [Int.ediv_ediv_of_nonneg (Int.pow_nonneg (by decide)), show (8 * (k + 1)) = 8 * k + 8 from by omega, Int.pow_add]
  rfl
theorem fdig_eq (m : Nat) : fdig m = [(m : Int) / 2 ^ (8 * 5) % 256, (m : Int) / 2 ^ (8 * 4) % 256, (m : Int) / 2 ^ (8 * 3) % 256, (m : Int) / 2 ^ (8 * 2) % 256, (m : Int) / 2 ^ (8 * 1) % 256, (m : Int) / 2 ^ (8 * 0) % 256] := rfl
theorem fdig_fix {m : Nat} (h : m < 281474976710656) : fixN (fdig m) = m := by
  obtain ⟨q1, b0, h1, c0, d0, n1⟩ := step256 (m : Int) (by omega)
  obtain ⟨q2, b1, h2, c1, d1, n2⟩ := step256 q1 n1
  obtain ⟨q3, b2, h3, c2, d2, n3⟩ := step256 q2 n2
  obtain ⟨q4, b3, h4, c3, d3, n4⟩ := step256 q3 n3
  obtain ⟨q5, b4, h5, c4, d4, n5⟩ := step256 q4 n4
  obtain ⟨q6, b5, h6, c5, d5, n6⟩ := step256 q5 n5
  have e0 : (m : Int) / 2 ^ (8 * 0) = m := by simp
  have e1 : (m : Int) / 2 ^ (8 * 1) = q1 := by rw [← div_step, e0, h1]
  have e2 : (m : Int) / 2 ^ (8 * 2) = q2 := by rw [← div_step, e1, h2]
  have e3 : (m : Int) / 2 ^ (8 * 3) = q3 := by rw [← div_step, e2, h3]
  have e4 : (m : Int) / 2 ^ (8 * 4) = q4 := by rw [← div_step, e3, h4]
  have e5 : (m : Int) / 2 ^ (8 * 5) = q5 := by rw [← div_step, e4, h5]
  rw [fdig_eq, e0, e1, e2, e3, e4, e5, c0, c1, c2, c3, c4, c5]
  clear h1 h2 h3 h4 h5 h6 c0 c1 c2 c3 c4 c5 e0 e1 e2 e3 e4 e5
  simp only [fixN, List.foldl_cons, List.foldl_nil, Int.toNat_natCast]
  omega
theorem fold_inj : ∀ (xs ys : List Int) (n m : Nat), xs.length = ys.length → (∀ y ∈ xs, In8 y) → (∀ y ∈ ys, In8 y) →
    xs.foldl (fun (n : Nat) (y : Int) => n * 256 + y.toNat) n = ys.foldl (fun (n : Nat) (y : Int) => n * 256 + y.toNat) m → n = m ∧ xs = ys := by
  intro xs
  induction xs with
  | nil =>
    intro ys n m hl _ _ h
    cases ys with
    | nil => exact ⟨h, rfl⟩
    | cons y t => simp at hl
  | cons x r ih =>
    intro ys n m hl hx hy h
    cases ys with
    | nil => simp at hl
    | cons y t =>
      rw [List.foldl_cons, List.foldl_cons] at h
      obtain ⟨h1, h2⟩ := ih t _ _ (by simpa using hl) (fun z hz => hx z (by simp [hz])) (fun z hz => hy z (by simp [hz])) h
      have a := hx x (by simp)
      have b := hy y (by simp)
      unfold In8 at a b
      exact ⟨by omega, by rw [h2, show x = y from by omega]⟩
theorem fix6 {l : List Int} (hl : l.length = 6) (h : ∀ y ∈ l, In8 y) : fdig (fixN l) = l := by
  have hlt := fixN_lt l h
  rw [hl] at hlt
  have e := fdig_fix (m := fixN l) (by omega)
  exact (fold_inj (fdig (fixN l)) l 0 0 (by rw [fdig_len, hl]) (fdig_in8 _) h e).2
theorem keepF3 {w0 w w' : World} {B : Nat} (hb : Below w.heap.size w w') {a1 a2 a3 : Addr} {v1 v2 v3 : Value} (hB : B ≤ w0.heap.size) (h : w.cell? a1 = some v1 ∧ w.cell? a2 = some v2 ∧ w.cell? a3 = some v3 ∧ w.frozen? a2 = false ∧ w.frozen? a3 = false ∧ Below B w0 w) :
    w'.cell? a1 = some v1 ∧ w'.cell? a2 = some v2 ∧ w'.cell? a3 = some v3 ∧ w'.frozen? a2 = false ∧ w'.frozen? a3 = false ∧ Below B w0 w' :=
  ⟨cell_later hb h.1, cell_later hb h.2.1, cell_later hb h.2.2.1, (hb.frozen (World.block_lt_of_cell? _ _ h.2.1)).trans h.2.2.2.1, (hb.frozen (World.block_lt_of_cell? _ _ h.2.2.1)).trans h.2.2.2.2.1, h.2.2.2.2.2.trans (hb.mono (Nat.le_trans hB h.2.2.2.2.2.size))⟩
theorem keepFd3 {w0 w : World} {B : Nat} {a1 a2 a3 : Addr} {v1 v2 v3 : Value} (h : w.cell? a1 = some v1 ∧ w.cell? a2 = some v2 ∧ w.cell? a3 = some v3 ∧ w.frozen? a2 = false ∧ w.frozen? a3 = false ∧ Below B w0 w) :
    w.drew.cell? a1 = some v1 ∧ w.drew.cell? a2 = some v2 ∧ w.drew.cell? a3 = some v3 ∧ w.drew.frozen? a2 = false ∧ w.drew.frozen? a3 = false ∧ Below B w0 w.drew := ⟨h.1, h.2.1, h.2.2.1, h.2.2.2.1, h.2.2.2.2.1, h.2.2.2.2.2.drew⟩
theorem tailF3 {w0 w : World} {B : Nat} {a1 a2 a3 : Addr} {v1 v2 v3 : Value} (h : w.cell? a1 = some v1 ∧ w.cell? a2 = some v2 ∧ w.cell? a3 = some v3 ∧ w.frozen? a2 = false ∧ w.frozen? a3 = false ∧ Below B w0 w) : Below B w0 w := h.2.2.2.2.2
end Go.Proofs.Ytkgalkaafocnjaa
