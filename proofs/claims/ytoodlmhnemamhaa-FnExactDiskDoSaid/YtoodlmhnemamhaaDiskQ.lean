/- A disk's test: plain facts for its walks. -/
import Derived.Test.YtoodlmhnemamhaaDiskP
import Derived.Test.YtoodlmhnemamhaaDiskU
namespace Go.Proofs.Ytoodlmhnemamhaa
theorem atFD_dat (xs : List FileR) (k : Nat) (h : k < xs.length) : atFD (xs.map datFile) k = datFile (atFile xs k) := by
  unfold atFD
  rw [List.getD_eq_getElem?_getD, List.getElem?_map, List.getElem?_eq_getElem h, atFile_eq xs k h]
  rfl
theorem size_less (l : List FD) (nm : ByteArray) : sizeF (lessF l nm) ≤ sizeF l := by
  induction l with
  | nil => exact Nat.le_refl _
  | cons a r ih =>
    unfold lessF sizeF at *
    by_cases h : (!eqN a.1 nm) = true
    · rw [List.filter_cons_of_pos (p := fun f : FD => !eqN f.1 nm) h, List.map_cons, List.sum_cons, List.map_cons, List.sum_cons]; exact Nat.add_le_add_left ih _
    · rw [List.filter_cons_of_neg (p := fun f : FD => !eqN f.1 nm) h, List.map_cons, List.sum_cons]; exact Nat.le_trans ih (Nat.le_add_left _ _)
theorem size_ins (x : FD) : ∀ l : List FD, sizeF (insF x l) = sizeF l + x.2.length := by
  intro l
  induction l with
  | nil => simp [insF, sizeF]
  | cons y r ih =>
    simp only [insF]
    split
    · unfold sizeF; simp only [List.map_cons, List.sum_cons]; omega
    · unfold sizeF at *; simp only [List.map_cons, List.sum_cons, ih]; omega
theorem size_with (l : List FD) (x : FD) : sizeF (withF l x) ≤ sizeF l + x.2.length := by
  unfold withF
  rw [size_ins]
  have := size_less l x.1
  omega
theorem size_mem : ∀ (l : List FD) (f : FD), f ∈ l → f.2.length ≤ sizeF l := by
  intro l
  induction l with
  | nil => intro f h; cases h
  | cons a r ih =>
    intro f h
    unfold sizeF at *
    rw [List.map_cons, List.sum_cons]
    rcases List.mem_cons.1 h with h | h
    · rw [h]; omega
    · have := ih f h; omega
theorem size_get (l : List FD) (nm : ByteArray) : (getF l nm).length ≤ sizeF l := by
  unfold getF
  cases h : hasF l nm with
  | false => rw [find_none h]; exact Nat.zero_le _
  | true =>
    obtain ⟨x, e, hm⟩ := find_some h
    rw [e]
    exact size_mem l _ hm
theorem size_make (l : List FD) (o : OD) : sizeF (makeF l o) ≤ 2 * sizeF l + o.2.2.2.length := by
  have hg := size_get l o.2.1
  unfold makeF
  split
  · have := size_with l (o.2.1, []); simp only [List.length_nil] at this; omega
  · split
    · have := size_with l (o.2.1, getF l o.2.1 ++ o.2.2.2); simp only [List.length_append] at this; omega
    · split
      · have := size_with (lessF l o.2.1) (o.2.2.1, getF l o.2.1); have h2 := size_less l o.2.1; simp only at this; omega
      · have := size_less l o.2.1; omega
theorem len_make (l : List FD) (o : OD) : (makeF l o).length ≤ l.length + 1 := by
  unfold makeF
  split
  · exact len_with l _
  · split
    · exact len_with l _
    · split
      · have := len_with (lessF l o.2.1) (o.2.2.1, getF l o.2.1); have h2 := len_less l o.2.1; omega
      · have h2 := len_less l o.2.1; omega
theorem runF_drop {room : Int} {l : List FD} {O : List OD} {k : Nat} (h : k < O.length) : runF room l (O.drop k) = if opOk O[k] && (fitsB l O[k] && decide ((sizeF (makeF l O[k]) : Int) ≤ room)) then runF room (makeF l O[k]) (O.drop (k + 1)) else none := by
  rw [List.drop_eq_getElem_cons h]
  rfl
theorem size_bulk {w : World} {y : Row FileR} (g : rdFileS w y) : sizeF (datFileS y) ≤ bulkFileS y := by
  unfold sizeF datFileS bulkFileS preFile
  rw [List.map_map, List.take_length]
  have h : ∀ l : List FileR, (∀ f ∈ l, f.data.length = f.dataN) → (l.map ((fun f : FD => f.2.length) ∘ datFile)).sum ≤ (l.map bulkFile).sum := by
    intro l
    induction l with
    | nil => intro _; exact Nat.le_refl _
    | cons a r ih =>
      intro h
      have h1 := h a (by simp)
      have h2 := ih (fun f hf => h f (by simp [hf]))
      rw [List.map_cons, List.sum_cons, List.map_cons, List.sum_cons]
      have h3 : ((fun f : FD => f.2.length) ∘ datFile) a = a.dataN := h1
      have h4 : a.dataN ≤ bulkFile a := by unfold bulkFile; omega
      omega
  have := h y.l (fun f hf => (g.2 f hf).len)
  omega
/-- The tests one after the other. -/
theorem headB_of {room fuse : Int} {F : List FD} {O : List OD} (h : headB room fuse F O = true) : 0 ≤ room ∧ room ≤ 200000 ∧ -1 ≤ fuse ∧ fuse ≤ 2000 ∧ F.length ≤ 12 ∧ O.length ≤ 60 := by
  simp [headB] at h
  omega
theorem headB_mk {room fuse : Int} {F : List FD} {O : List OD} (h : 0 ≤ room ∧ room ≤ 200000 ∧ -1 ≤ fuse ∧ fuse ≤ 2000 ∧ F.length ≤ 12 ∧ O.length ≤ 60) : headB room fuse F O = true := by
  simp [headB]
  omega
theorem diskB_head {room fuse : Int} {F : List FD} {O : List OD} (h : ¬ (0 ≤ room ∧ room ≤ 200000 ∧ -1 ≤ fuse ∧ fuse ≤ 2000 ∧ F.length ≤ 12 ∧ O.length ≤ 60)) : diskB room fuse F O = false := by
  have : headB room fuse F O = false := by
    cases e : headB room fuse F O
    · rfl
    · exact absurd (headB_of e) h
  unfold diskB
  rw [this]
  rfl
theorem diskB_size {room fuse : Int} {F : List FD} {O : List OD} (h : room < (sizeF F : Int)) : diskB room fuse F O = false := by
  unfold diskB seenB
  rw [if_neg (by omega)]
  simp
theorem diskB_name {room fuse : Int} {F : List FD} {O : List OD} {k : Nat} (hk : k < F.length) (h : nameStep F k = false) : diskB room fuse F O = false := by
  unfold diskB
  rw [namesB_no hk h]
  simp
theorem diskB_run {room fuse : Int} {F : List FD} {O : List OD} (h1 : 0 ≤ room ∧ room ≤ 200000 ∧ -1 ≤ fuse ∧ fuse ≤ 2000 ∧ F.length ≤ 12 ∧ O.length ≤ 60) (h2 : ∀ k, k < F.length → nameStep F k = true) (h3 : (sizeF F : Int) ≤ room) : diskB room fuse F O = (runF room F O).isSome := by
  unfold diskB seenB
  rw [headB_mk h1, namesB_all h2, if_pos h3]
  rfl
end Go.Proofs.Ytoodlmhnemamhaa
