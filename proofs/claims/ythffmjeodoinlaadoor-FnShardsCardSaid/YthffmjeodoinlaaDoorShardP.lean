/- Right shards: the plain test. -/
import Derived.Test.YthffmjeodoinlaaDoorSEdgeS
import Derived.Test.YthffmjeodoinlaaDoorTyShard
import Derived.Test.YthffmjeodoinlaaDoorNum
namespace Go.Proofs.YthffmjeodoinlaaDoor
open Go.RowKit
def sedge8 (lo hi : Int) (e : SEdgeR) : Bool := decide (0 ≤ e.fr) && decide (e.fr < 150) && decide (lo ≤ e.to) && decide (e.to < hi) && decide (0 ≤ e.wt) && decide (e.wt ≤ 1000) && decide (0 ≤ e.ix) && decide (e.ix < 400)
def sedgeB (lo hi : Int) (e : SEdgeR) : Bool := sedge8 lo hi e && numB e.val
theorem sedgeB_yes {lo hi : Int} {e : SEdgeR} (h : sedgeB lo hi e = true) : (0 ≤ e.fr ∧ e.fr < 150 ∧ lo ≤ e.to ∧ e.to < hi ∧ 0 ≤ e.wt ∧ e.wt ≤ 1000 ∧ 0 ≤ e.ix ∧ e.ix < 400) ∧ numB e.val = true := by
  simp [sedgeB, sedge8] at h
  obtain ⟨h1, h2⟩ := h
  exact ⟨by omega, h2⟩
theorem sedgeB_no {lo hi : Int} {e : SEdgeR} (h : sedgeB lo hi e = false) : ((e.fr < 0) ∨ (0 ≤ e.fr ∧ 150 ≤ e.fr) ∨ (0 ≤ e.fr ∧ e.fr < 150 ∧ e.to < lo) ∨ (0 ≤ e.fr ∧ e.fr < 150 ∧ lo ≤ e.to ∧ hi ≤ e.to) ∨ (0 ≤ e.fr ∧ e.fr < 150 ∧ lo ≤ e.to ∧ e.to < hi ∧ e.wt < 0) ∨ (0 ≤ e.fr ∧ e.fr < 150 ∧ lo ≤ e.to ∧ e.to < hi ∧ 0 ≤ e.wt ∧ 1000 < e.wt) ∨ (0 ≤ e.fr ∧ e.fr < 150 ∧ lo ≤ e.to ∧ e.to < hi ∧ 0 ≤ e.wt ∧ e.wt ≤ 1000 ∧ e.ix < 0) ∨ (0 ≤ e.fr ∧ e.fr < 150 ∧ lo ≤ e.to ∧ e.to < hi ∧ 0 ≤ e.wt ∧ e.wt ≤ 1000 ∧ 0 ≤ e.ix ∧ 400 ≤ e.ix)) ∨ (0 ≤ e.fr ∧ e.fr < 150 ∧ lo ≤ e.to ∧ e.to < hi ∧ 0 ≤ e.wt ∧ e.wt ≤ 1000 ∧ 0 ≤ e.ix ∧ e.ix < 400 ∧ numB e.val = false) := by
  by_cases c0 : 0 ≤ e.fr
  · by_cases c1 : e.fr < 150
    · by_cases c2 : lo ≤ e.to
      · by_cases c3 : e.to < hi
        · by_cases c4 : 0 ≤ e.wt
          · by_cases c5 : e.wt ≤ 1000
            · by_cases c6 : 0 ≤ e.ix
              · by_cases c7 : e.ix < 400
                · have h8 : sedge8 lo hi e = true := by simp [sedge8, c0, c1, c2, c3, c4, c5, c6, c7]
                  have hv : numB e.val = false := by simpa [sedgeB, h8] using h
                  exact Or.inr ⟨c0, c1, c2, c3, c4, c5, c6, c7, hv⟩
                · exact Or.inl (Or.inr (Or.inr (Or.inr (Or.inr (Or.inr (Or.inr (Or.inr (⟨c0, c1, c2, c3, c4, c5, c6, by omega⟩))))))))
              · exact Or.inl (Or.inr (Or.inr (Or.inr (Or.inr (Or.inr (Or.inr (Or.inl ⟨c0, c1, c2, c3, c4, c5, by omega⟩)))))))
            · exact Or.inl (Or.inr (Or.inr (Or.inr (Or.inr (Or.inr (Or.inl ⟨c0, c1, c2, c3, c4, by omega⟩))))))
          · exact Or.inl (Or.inr (Or.inr (Or.inr (Or.inr (Or.inl ⟨c0, c1, c2, c3, by omega⟩)))))
        · exact Or.inl (Or.inr (Or.inr (Or.inr (Or.inl ⟨c0, c1, c2, by omega⟩))))
      · exact Or.inl (Or.inr (Or.inr (Or.inl ⟨c0, c1, by omega⟩)))
    · exact Or.inl (Or.inr (Or.inl ⟨c0, by omega⟩))
  · exact Or.inl (Or.inl (by omega))
def nextB (p e : SEdgeR) : Bool := decide (p.fr < e.fr) || (decide (p.fr = e.fr) && decide (p.ix < e.ix))
theorem nextB_yes {p e : SEdgeR} (h : nextB p e = true) : p.fr < e.fr ∨ (p.fr = e.fr ∧ p.ix < e.ix) := by simpa [nextB] using h
theorem nextB_no {p e : SEdgeR} (h : nextB p e = false) : e.fr < p.fr ∨ (p.fr = e.fr ∧ e.ix ≤ p.ix) := by simp [nextB] at h; omega
def stepB (lo hi : Int) (xs : List SEdgeR) (k : Nat) : Bool := sedgeB lo hi (atSEdge xs k) && (decide (k = 0) || nextB (atSEdge xs (k - 1)) (atSEdge xs k))
def shardB (lo hi : Int) (xs : List SEdgeR) : Bool := decide (0 ≤ lo) && decide (lo < hi) && decide (hi ≤ 150) && decide (xs.length ≤ 400) && (List.range xs.length).all (stepB lo hi xs)
theorem shardB_no {lo hi : Int} {xs : List SEdgeR} {k : Nat} (h : k < xs.length) (hs : stepB lo hi xs k = false) : shardB lo hi xs = false := by
  have : (List.range xs.length).all (stepB lo hi xs) = false := by
    rw [List.all_eq_false]
    exact ⟨k, by simpa using h, by simp [hs]⟩
  simp [shardB, this]
theorem range_step {f : Nat → Bool} {k : Nat} (h : (List.range k).all f = true) (hk : f k = true) : (List.range (k + 1)).all f = true := by
  rw [List.range_succ, List.all_append, h]; simp [hk]
theorem shardB_yes {lo hi : Int} {xs : List SEdgeR} (h : shardB lo hi xs = true) : 0 ≤ lo ∧ lo < hi ∧ hi ≤ 150 ∧ xs.length ≤ 400 ∧ ∀ k, k < xs.length → stepB lo hi xs k = true := by
  simp [shardB] at h
  obtain ⟨⟨⟨⟨h1, h2⟩, h3⟩, h4⟩, h5⟩ := h
  exact ⟨h1, h2, h3, h4, h5⟩
theorem stepB_first {lo hi : Int} {xs : List SEdgeR} (h : sedgeB lo hi (atSEdge xs 0) = true) : stepB lo hi xs 0 = true := by simp [stepB, h]
theorem stepB_bad {lo hi : Int} {xs : List SEdgeR} {k : Nat} (h : sedgeB lo hi (atSEdge xs k) = false) : stepB lo hi xs k = false := by simp [stepB, h]
theorem stepB_next {lo hi : Int} {xs : List SEdgeR} {k : Nat} (h : sedgeB lo hi (atSEdge xs k) = true) (hk : 0 < k) : stepB lo hi xs k = nextB (atSEdge xs (k - 1)) (atSEdge xs k) := by
  have : ¬ k = 0 := by omega
  simp [stepB, h, this]
end Go.Proofs.YthffmjeodoinlaaDoor
