/- FrameRead, in the form that the laws' walks use. -/
import Derived.Test.YtkgalkaafocnjaaFrReadI
import Derived.Test.YtkgalkaafocnjaaFrSpec
import Derived.Test.YtkgalkaafocnjaaFrameK
import Derived.Test.YtkgalkaafocnjaaByteSK
namespace Go.Proofs.Ytkgalkaafocnjaa
open Go.RowKit
def RetFrK (r : (Int × List Int) × Int × Int) (w : World) (en : Ending) (w' : World) : Prop := ∃ y : FrameR, en = .returned (.tuple #[.agg #[.int .i64 y.kind, .slice y.dataA y.dataN y.dataC], .int .i64 r.2.1, .int .i64 r.2.2]) ∧ datFrame y = r.1 ∧ OwnFrame w.heap.size w'.heap.size w' y ∧ bulkFrame y ≤ 1048576 ∧ Below w.heap.size w w'
theorem RetFr.k {r : (Int × List Int) × Int × Int} {w w' : World} {en : Ending} (h : RetFr r w en w') (hn : r.1.2.length ≤ 1048576) : RetFrK r w en w' := by
  obtain ⟨a, n, cap, he, ho, hb⟩ := h
  exact ⟨⟨r.1.1, a, n, cap, r.1.2⟩, he, rfl, ⟨ho.toS, Nat.le_refl _⟩, (by have := ho.len; unfold bulkFrame; simp only; omega), hb⟩
theorem frD_le (l : List Int) : (frD l).length ≤ l.length := by unfold frD; rw [List.length_take, List.length_drop]; omega
theorem frameReadF_len (zs : List Int) (p : Int) : (frameReadF zs p).1.2.length ≤ zs.length := by
  unfold frameReadF
  split
  · exact Nat.zero_le _
  · have h := frD_le (zs.drop p.toNat)
    rw [List.length_drop] at h
    unfold frameReadL
    split
    · exact Nat.zero_le _
    · split
      · exact Nat.zero_le _
      · split
        · exact Nat.zero_le _
        · split
          · exact Nat.zero_le _
          · simp only; omega
theorem frameRead_impl_k (y : Row Int) (D : List Int) (hD : datByteS y = D) (p : Int) (w : World) (g : rdByteS w y) (o : ∀ z ∈ D, In8 z) (g1 : In64 p) (hn : bulkByteS y ≤ 1048576) :
    Calls Try.prog 38 #[.slice y.a y.n y.c, .int .i64 p] w fun e w' => RetFrK (frameReadF D p) w e w' := by
  subst hD
  have hn' : y.n ≤ 1048576 := hn
  exact (frameRead_impl _ _ _ _ _ _ g o g1 (by omega)).mono fun _ _ h => h.k (Nat.le_trans (frameReadF_len _ _) (by have := g.len; omega))
theorem frameRead_spec_k (y : Row Int) (D : List Int) (hD : datByteS y = D) (p : Int) (w : World) (g : rdByteS w y) (o : ∀ z ∈ D, In8 z) (g1 : In64 p) (hn : bulkByteS y ≤ 1048576) :
    Calls Try.prog 37 #[.slice y.a y.n y.c, .int .i64 p] w fun e w' => RetFrK (frameReadF D p) w e w' := by
  subst hD
  have hn' : y.n ≤ 1048576 := hn
  exact (frameRead_spec _ _ _ _ _ _ g o g1 (by omega)).mono fun _ _ h => h.k (Nat.le_trans (frameReadF_len _ _) (by have := g.len; omega))
end Go.Proofs.Ytkgalkaafocnjaa
