/- string(b) of a slice of bytes that can be read; when two such strings are one. Nothing of the program. -/
import Derived.Test.YtoodlmhnemamhaaOwn
import Derived.Laws.BytesArg
namespace Go.Proofs.Ytoodlmhnemamhaa
open Go.RowKit
theorem Rd.str {P : Program} {w : World} {a : Option Addr} {n cap : Nat} {zs : List Int} (h : Rd (encI .u8) 1 w a n cap zs) {src e dst : TypeId} (hs : P.underlying src = some (.slice e)) (he : P.underlying e = some (.int .u8)) (hd : P.underlying dst = some .string) :
    (convert src dst (.slice a n cap)).run P w = .ok (.string (strOfNums zs)) w := by
  cases a with
  | none =>
    have hn : zs = [] := List.eq_nil_of_length_eq_zero (by rw [h.len]; exact (by have h1 := h.nil rfl; have h2 := h.le; omega))
    subst hn
    exact run_convert_bytes_nil w src e hs he n cap dst hd
  | some ad =>
    rcases Nat.eq_zero_or_pos n with h0 | h0
    · subst h0
      have hn : zs = [] := List.eq_nil_of_length_eq_zero h.len
      subst hn
      rw [run_convert_bytes_string w src dst e _ 0 cap hs he hd, run_bytesToString w ad 0 cap [] (by simp [loadCells, loadCellsFrom])]
      rfl
    · obtain ⟨b, off, ha, _, hc⟩ := h.ints h0
      cases ha
      exact run_convert_bytes_arg w src e hs he b off n cap zs h.len hc dst hd
theorem Rd.drewN {α : Type} {enc : α → List Value} {sz : Nat} {w : World} {a : Option Addr} {n cap : Nat} {xs : List α} (h : Rd enc sz w a n cap xs) (q : Nat) : Rd enc sz (w.drewN q) a n cap xs := h.below (below_drewN (Below.refl w.heap.size w) q) (Nat.le_refl _)
theorem Rd.window {k : IntKind} {w : World} {b off n cap : Nat} {zs : List Int} (h : Rd (encI k) 1 w (some ⟨b, off, none⟩) n cap zs) (p m : Nat) (h1 : p ≤ m) (h2 : m ≤ n) : Rd (encI k) 1 w (some ⟨b, off + p, none⟩) (m - p) (cap - p) ((zs.drop p).take (m - p)) := by
  have hl := h.len
  have hc := h.le
  have hm := h.max
  refine ⟨by omega, by omega, by rw [List.length_take, List.length_drop]; omega, (fun hh => by cases hh), fun hn => ?_⟩
  obtain ⟨b', off', ha, hb, hcell⟩ := h.ints (by omega)
  cases ha
  refine ⟨b, off + p, rfl, hb, fun i hi f u hu => ?_⟩
  have hi' : i < m - p := by rw [List.length_take] at hi; omega
  cases f with
  | zero =>
    simp [encI] at hu
    subst hu
    have := hcell (p + i) (by omega)
    rw [show off + p + i * 1 + 0 = off + (p + i) from by omega, this]
    simp [List.getD, show p + i < zs.length from by omega]
  | succ f => simp [encI] at hu
theorem Rd.pre {k : IntKind} {w : World} {b off n cap : Nat} {zs : List Int} (h : Rd (encI k) 1 w (some ⟨b, off, none⟩) n cap zs) (m : Nat) (h2 : m ≤ n) : Rd (encI k) 1 w (some ⟨b, off, none⟩) m cap (zs.take m) := by
  have := h.window 0 m (Nat.zero_le _) h2
  simpa using this
theorem str_inj : ∀ {xs ys : List Int}, (∀ y ∈ xs, In8 y) → (∀ y ∈ ys, In8 y) → strOfNums xs = strOfNums ys → xs = ys := by
  intro xs ys hx hy h
  have h1 := congrArg (fun s : ByteArray => s.data.toList) h
  simp only [strOfNums_data] at h1
  have key : ∀ (xs ys : List Int), (∀ y ∈ xs, In8 y) → (∀ y ∈ ys, In8 y) → (xs.map fun n => UInt8.ofNat n.toNat) = (ys.map fun n => UInt8.ofNat n.toNat) → xs = ys := by
    intro xs
    induction xs with
    | nil => intro ys _ _ h; cases ys with
      | nil => rfl
      | cons y t => simp at h
    | cons x r ih =>
      intro ys hx hy h
      cases ys with
      | nil => simp at h
      | cons y t =>
        simp only [List.map_cons, List.cons.injEq] at h
        have a := hx x (by simp)
        have b := hy y (by simp)
        unfold In8 at a b
        have e := congrArg UInt8.toNat h.1
        simp only [UInt8.toNat_ofNat'] at e
        have : x = y := by omega
        rw [this, ih t (fun z hz => hx z (by simp [hz])) (fun z hz => hy z (by simp [hz])) h.2]
  exact key xs ys hx hy h1
/-- '==' of two such strings, in the walk's spelling. -/
theorem str_eq {xs ys : List Int} (hx : ∀ y ∈ xs, In8 y) (hy : ∀ y ∈ ys, In8 y) : ((strOfNums xs).toList == (strOfNums ys).toList) = decide (xs = ys) := by
  by_cases h : xs = ys
  · subst h; simp
  · rw [decide_eq_false h, beq_eq_false_iff_ne]
    intro e
    apply h
    apply str_inj hx hy
    rw [ByteArray.toList_eq, ByteArray.toList_eq] at e
    have := Array.toList_inj.1 e
    cases hA : strOfNums xs; cases hB : strOfNums ys; simp_all
end Go.Proofs.Ytoodlmhnemamhaa
