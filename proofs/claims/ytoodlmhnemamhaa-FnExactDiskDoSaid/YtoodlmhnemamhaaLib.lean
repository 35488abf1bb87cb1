/- Words and small lemmas that every walk of this seat uses: a slice that can be read, an owned row, a frame. Nothing of the program. -/
import Derived.WalkKit
import Derived.WalkSpells
import Derived.WalkLawsBesides
import Derived.Lib.Hide
import Derived.Deep.QuietTactic
import Derived.BigQuiet
namespace Go.Proofs.Ytoodlmhnemamhaa
open Go.RowKit

/-- A slice value that can be read: n elements, each of sz cells as enc says. -/
structure Rd {α : Type} (enc : α → List Value) (sz : Nat) (w : World) (a : Option Addr) (n cap : Nat) (xs : List α) : Prop where
  le : n ≤ cap
  max : cap ≤ maxLen
  len : xs.length = n
  nil : a = none → cap = 0
  spot : 0 < n → ∃ b off, a = some ⟨b, off, none⟩ ∧ b < w.heap.size ∧ ∀ i (h : i < xs.length) f u, (enc xs[i])[f]? = some u → w.cell? ⟨b, off + i * sz + f, none⟩ = some u

def In64 (z : Int) : Prop := -9223372036854775808 ≤ z ∧ z ≤ 9223372036854775807
def In8 (z : Int) : Prop := 0 ≤ z ∧ z ≤ 255

def encI (k : IntKind) (x : Int) : List Value := [.int k x]

theorem flat_encI (k : IntKind) (zs : List Int) : zs.flatMap (encI k) = zs.map (Value.int k) := by
  induction zs with
  | nil => rfl
  | cons a r ih => simp [encI, List.flatMap_cons] at *; exact ih

theorem Rd.below {α : Type} {enc : α → List Value} {sz : Nat} {w w' : World} {a : Option Addr} {n cap : Nat} {xs : List α} (h : Rd enc sz w a n cap xs) {B : Nat} (hb : Below B w w') (hB : w.heap.size ≤ B) : Rd enc sz w' a n cap xs := by
  refine ⟨h.le, h.max, h.len, h.nil, fun hn => ?_⟩
  obtain ⟨b, off, ha, hl, hc⟩ := h.spot hn
  refine ⟨b, off, ha, Nat.lt_of_lt_of_le hl hb.size, fun i hi f u hu => ?_⟩
  rw [hb.cell (p := ⟨b, off + i * sz + f, none⟩) (Nat.lt_of_lt_of_le hl hB)]
  exact hc i hi f u hu

/-- Of a slice of integers: the cells in the walk's own spelling. -/
theorem Rd.ints {k : IntKind} {w : World} {a : Option Addr} {n cap : Nat} {zs : List Int} (h : Rd (encI k) 1 w a n cap zs) (hn : 0 < n) :
    ∃ b off, a = some ⟨b, off, none⟩ ∧ b < w.heap.size ∧ ∀ j, j < n → w.cell? ⟨b, off + j, none⟩ = some (.int k (zs.getD j 0)) := by
  obtain ⟨b, off, ha, hl, hc⟩ := h.spot hn
  refine ⟨b, off, ha, hl, fun j hj => ?_⟩
  have hj' : j < zs.length := by rw [h.len]; exact hj
  have := hc j hj' 0 (.int k zs[j]) (by simp [encI])
  simpa [List.getD, hj'] using this

/-- An owned row can be read. -/
theorem Rd.of_own {α : Type} {enc : α → List Value} {sz : Nat} {w : World} {B : Nat} {e : TypeId} {a : Option Addr} {n cap : Nat} {xs : List α}
    (hs : ∀ x ∈ xs, (enc x).length = sz) (h : w.ownsRow B e sz (.slice a n cap) n (xs.flatMap enc)) (hx : xs.length = n) : Rd enc sz w a n cap xs := by
  rcases h.2 with ⟨hv, h0⟩ | ⟨g, cap', cur, hv, _, hg, hnc, hcm, hcs, htake⟩
  · cases hv
    exact ⟨by omega, by unfold maxLen; omega, hx, fun _ => rfl, fun hn => by omega⟩
  · cases hv
    refine ⟨hnc, hcm, hx, (fun hh => by cases hh), fun hn => ⟨g, 0, rfl, (Array.getElem?_eq_some_iff.1 hg).1, fun i hi f u hu => ?_⟩⟩
    have hcell := cell_of_row w g (0 + i * sz + f) cur e (0, 0) hg
    rw [hcell]
    have key : ∀ (ys : List α), (∀ x ∈ ys, (enc x).length = sz) → ∀ i (hi : i < ys.length) f u, (enc ys[i])[f]? = some u → (ys.flatMap enc)[i * sz + f]? = some u := by
      intro ys
      induction ys with
      | nil => intro _ i hi; exact absurd hi (by simp)
      | cons y r ih =>
        intro hy i hi f u hu
        have hy0 : (enc y).length = sz := hy y (by simp)
        rw [List.flatMap_cons]
        cases i with
        | zero =>
          simp at hu
          have hf : f < (enc y).length := by
            have := (List.getElem?_eq_some_iff.1 hu).1; exact this
          rw [List.getElem?_append_left (by omega)]
          simpa using hu
        | succ i =>
          rw [List.getElem?_append_right (by rw [hy0, Nat.succ_mul]; omega)]
          have := ih (fun x hx => hy x (by simp [hx])) i (by simpa using hi) f u (by simpa using hu)
          rw [show (i + 1) * sz + f - (enc y).length = i * sz + f from by rw [hy0, Nat.succ_mul]; omega]
          exact this
    have := key xs hs i hi f u hu
    rw [← htake] at this
    rw [List.getElem?_take] at this
    split at this
    · simpa using this
    · cases this

theorem Rd.of_ints {k : IntKind} {w : World} {B : Nat} {e : TypeId} {a : Option Addr} {n cap : Nat} {zs : List Int} (h : w.ownsRow B e 1 (.slice a n cap) n (zs.map (.int k))) (hz : zs.length = n) : Rd (encI k) 1 w a n cap zs :=
  Rd.of_own (B := B) (e := e) (fun _ _ => rfl) (by rw [flat_encI]; exact h) hz

/-- What is owned stays owned where blocks below B stay and its block lies below B. -/
theorem own_below {w w' : World} {b : Nat} {e : TypeId} {sz : Nat} {v : Value} {n : Nat} {xs : List Value} (h : w.ownsRow b e sz v n xs) {B : Nat} (hb : Below B w w') (hB : w.heap.size ≤ B) : w'.ownsRow b e sz v n xs := by
  refine ⟨h.1, ?_⟩
  rcases h.2 with hn | ⟨g, cap, cur, hv, hg, hh, r⟩
  · exact Or.inl hn
  · exact Or.inr ⟨g, cap, cur, hv, hg, by rw [hb.block g (Nat.lt_of_lt_of_le (Array.getElem?_eq_some_iff.1 hh).1 hB)]; exact hh, r⟩

/-- A smaller base. -/
theorem own_base {w : World} {b b' : Nat} {e : TypeId} {sz : Nat} {v : Value} {n : Nat} {xs : List Value} (h : w.ownsRow b e sz v n xs) (hb : b' ≤ b) : w.ownsRow b' e sz v n xs := by
  refine ⟨h.1, ?_⟩
  rcases h.2 with hn | ⟨g, cap, cur, hv, hg, r⟩
  · exact Or.inl hn
  · exact Or.inr ⟨g, cap, cur, hv, Nat.le_trans hb hg, r⟩

/-- What is owned from b on stays owned where one block below b is written. -/
theorem own_grown {w w' : World} {b : Nat} {e : TypeId} {sz : Nat} {v : Value} {n : Nat} {xs : List Value} (h : w.ownsRow b e sz v n xs) {row : Option Nat} (hg : w.grownBy w' row) (hr : ∀ k, row = some k → k < b) : w'.ownsRow b e sz v n xs := by
  refine ⟨h.1, ?_⟩
  rcases h.2 with hn | ⟨g, cap, cur, hv, hgb, hh, r⟩
  · exact Or.inl hn
  · exact Or.inr ⟨g, cap, cur, hv, hgb, by rw [hg.block g (Array.getElem?_eq_some_iff.1 hh).1 (fun e => by have := hr g e.symm; omega)]; exact hh, r⟩

theorem own_shape {w : World} {b : Nat} {e : TypeId} {sz : Nat} {v : Value} {n : Nat} {xs : List Value} (h : w.ownsRow b e sz v n xs) : ∃ a cap, v = .slice a n cap ∧ n ≤ cap ∧ cap ≤ maxLen := by
  rcases h.2 with ⟨rfl, rfl⟩ | ⟨g, cap, cur, rfl, _, _, h1, h2, _⟩
  · exact ⟨none, 0, rfl, Nat.le_refl _, by unfold maxLen; omega⟩
  · exact ⟨_, _, rfl, h1, h2⟩

theorem bcell {B : Nat} {W w1 : World} (hb : Below B W w1) : (∀ b o, b < B → w1.cell? ⟨b, o, none⟩ = W.cell? ⟨b, o, none⟩) ∧ (∀ b o, b < B → w1.frozen? ⟨b, o, none⟩ = W.frozen? ⟨b, o, none⟩) :=
  ⟨fun b o h => hb.cell (p := ⟨b, o, none⟩) h, fun b o h => hb.frozen (p := ⟨b, o, none⟩) h⟩

theorem below_grown {w w' : World} {row : Option Nat} (hg : w.grownBy w' row) {B : Nat} (hB : B ≤ w.heap.size) (hr : ∀ k, row = some k → B ≤ k) : Below B w w' :=
  (Below.refl B w).grown hg hB hr

theorem ret_b {a b : Bool} (h : a = b) : Ending.returned (.bool a) = .returned (.bool b) := by rw [h]
theorem ret_i {k : IntKind} {a b : Int} (h : a = b) : Ending.returned (.int k a) = .returned (.int k b) := by rw [h]
/-- After k of n copies: k of zs, then zeros. -/
def cpy (zs : List Int) (k : Nat) : List Int := zs.take k ++ List.replicate (zs.length - k) 0
theorem cpy_zero (zs : List Int) : cpy zs 0 = List.replicate zs.length 0 := by simp [cpy]
theorem cpy_all (zs : List Int) : cpy zs zs.length = zs := by simp [cpy]
theorem cpy_len (zs : List Int) (k : Nat) (h : k ≤ zs.length) : (cpy zs k).length = zs.length := by simp [cpy]; omega
theorem cpy_set (zs : List Int) (k : Nat) (h : k < zs.length) : (cpy zs k).set k (zs.getD k 0) = cpy zs (k + 1) := by
  unfold cpy
  rw [List.set_append_right _ _ (by simp; omega)]
  have e : zs.length - k = (zs.length - (k + 1)) + 1 := by omega
  rw [e, List.replicate_succ]
  have e2 : k - (zs.take k).length = 0 := by rw [List.length_take]; omega
  rw [e2, List.set_cons_zero, List.take_succ_eq_append_getElem h, List.append_assoc]
  simp [List.getD, h]
theorem take_succ_eq {xs ys : List Int} {k : Nat} (h : xs.take k = ys.take k) (h1 : k < xs.length) (h2 : k < ys.length) (he : xs.getD k 0 = ys.getD k 0) : xs.take (k + 1) = ys.take (k + 1) := by
  rw [List.take_succ_eq_append_getElem h1, List.take_succ_eq_append_getElem h2, h]
  simp [List.getD, h1, h2] at he
  rw [he]

/-- What mark writes: f k, f (k + 1), .. -/
def mks (f : Int → Int) (k : Int) (n : Nat) : List Int := (List.range n).map fun i : Nat => f (k + (i : Int))
theorem mks_len (f : Int → Int) (k : Int) (n : Nat) : (mks f k n).length = n := by simp [mks]
theorem mks_get (f : Int → Int) (k : Int) (n j : Nat) (h : j < n) : (mks f k n)[j]?.getD 0 = f (k + (j : Int)) := by simp [mks, h]
theorem mks_set (f : Int → Int) (k : Int) (zs : List Int) (j : Nat) (h : j < zs.length) : (mks f k j ++ zs.drop j).set j (f (k + (j : Int))) = mks f k (j + 1) ++ zs.drop (j + 1) := by
  rw [List.set_append_right _ _ (by rw [mks_len]; exact Nat.le_refl _), mks_len, Nat.sub_self, List.drop_eq_getElem_cons h, List.set_cons_zero]
  simp [mks, List.range_succ]
theorem mks_all (f : Int → Int) (k : Int) (zs : List Int) : mks f k zs.length ++ zs.drop zs.length = mks f k zs.length := by simp
def by8 (x : Int) : Int := x % 256
def asI (x : Int) : Int := x
theorem own_some {w : World} {B : Nat} {e : TypeId} {sz : Nat} {a : Option Addr} {n cap : Nat} {xs : List Value} (h : w.ownsRow B e sz (.slice a n cap) n xs) (hn : 0 < n) : ∃ g, a = some ⟨g, 0, none⟩ := by
  rcases h.2 with ⟨_, h0⟩ | ⟨g, cap', cur, hv, _⟩
  · omega
  · cases hv; exact ⟨g, rfl⟩
theorem own_cell {w : World} {B : Nat} {e : TypeId} {g n cap : Nat} {xs : List Value} (h : w.ownsRow B e 1 (.slice (some ⟨g, 0, none⟩) n cap) n xs) (j : Nat) (hj : j < n) : ∃ d, w.cell? ⟨g, j, none⟩ = some d := by
  rw [h.cellAt j (by omega)]
  exact ⟨_, List.getElem?_eq_getElem (by rw [h.1]; omega)⟩
theorem grown_refl (w : World) (row : Option Nat) : w.grownBy w row := ⟨rfl, rfl, rfl, Nat.le_refl _, fun _ _ _ => rfl⟩
theorem grown_trans {w w1 w2 : World} {row : Option Nat} (h : w.grownBy w1 row) (k : w1.grownBy w2 row) : w.grownBy w2 row :=
  ⟨k.os.trans h.os, k.tape.trans h.tape, k.output.trans h.output, Nat.le_trans h.size k.size, fun i hi hr => (k.block i (Nat.lt_of_lt_of_le hi h.size) hr).trans (h.block i hi hr)⟩
end Go.Proofs.Ytoodlmhnemamhaa
