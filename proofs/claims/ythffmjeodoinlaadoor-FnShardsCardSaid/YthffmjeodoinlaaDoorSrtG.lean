/- sort.Slice over a row of Rec, with a 'less' that may make new blocks. -/
import Derived.Test.YthffmjeodoinlaaDoorSrtF
import Derived.Shelf.GgSortFunc.SmallK
import Derived.Shelf.GgSortFunc.Tiny
namespace Go.Proofs.YthffmjeodoinlaaDoor
open Go.RowKit Go.Lib
open Go.Sort (HoldsK)
/-- The list in order. -/
def sortL (l : List RecR) : List RecR := l.mergeSort (fun x y => !lessR y x)
theorem less_anti : ∀ x y, lessR x y = false → lessR y x = false → x = y := by
  intro x y h1 h2
  obtain ⟨a, b, c⟩ := x
  obtain ⟨p, q, r⟩ := y
  unfold lessR lessB at *
  simp only at *
  simp only [RecR.mk.injEq]
  repeat' split at h1
  all_goals repeat' split at h2
  all_goals simp only [decide_eq_false_iff_not] at *
  all_goals omega
theorem recT : ∃ i, Tryd.prog.info? 50 = some i ∧ i.desc = .slice 54 := by
  have h : (Tryd.prog.info? 50).map (fun i => i.desc) = some (.slice 54) := by kernel_rfl
  cases hi : Tryd.prog.info? 50 with
  | none => rw [hi] at h; cases h
  | some i => rw [hi] at h; exact ⟨i, rfl, Option.some.inj h⟩
theorem recE : ∃ i, Tryd.prog.info? 54 = some i ∧ i.size = 3 ∧ i.hasPointers = false ∧ i.bytes = 24 := by
  have h : (Tryd.prog.info? 54).map (fun i => (i.size, i.hasPointers, i.bytes)) = some (3, false, 24) := by kernel_rfl
  cases hi : Tryd.prog.info? 54 with
  | none => rw [hi] at h; cases h
  | some i =>
    rw [hi] at h
    have h := Option.some.inj h
    simp only [Prod.mk.injEq] at h
    exact ⟨i, rfl, h.1, h.2.1, h.2.2⟩
theorem recK {ie : TypeInfo} (h1 : ie.hasPointers = false) (h2 : ie.bytes = 24) (n : Nat) : Lib.swapperK n ie 25 = if n = 0 then 1 else if n = 1 then 2 else 9 := by
  unfold Lib.swapperK
  rw [h1, h2]
  by_cases h : n = 0
  · subst h; rfl
  · by_cases k : n = 1
    · subst k; rfl
    · simp [h, k]
set_option maxHeartbeats 1600000 in
set_option maxRecDepth 100000 in
theorem sort_slice_tiny (a : Option Addr) (n c : Nat) (hn : n ≤ 1) (lf : Fn) (la lb : Array Value) (w : World) :
    Calls Tryd.prog 40 #[.iface 50 (.slice a n c), .func lf la lb] w fun e w' => e = .returned (.tuple #[]) ∧ ∃ os, w' = Sort.grow w os := by
  obtain ⟨iT, hT, dT⟩ := recT
  obtain ⟨iE, hE, sE, pE, bE⟩ := recE
  have hk := recK pE bE n
  rcases Nat.eq_zero_or_pos n with h0 | h0
  · subst h0
    exact Any.sort_Slice_tiny (P := Tryd.prog) (ρ := Tryd.sl6_ren) Tryd.sl6 50 54 iT iE hT dT (by kernel_rfl) hE 25 (fun _ => by kernel_rfl) a 0 c (by omega) 56 (by rw [hk]; kernel_rfl) lf la lb w
  · obtain rfl : n = 1 := by omega
    exact Any.sort_Slice_tiny (P := Tryd.prog) (ρ := Tryd.sl6_ren) Tryd.sl6 50 54 iT iE hT dT (by kernel_rfl) hE 25 (fun _ => by kernel_rfl) a 1 c (by omega) 57 (by rw [hk]; kernel_rfl) lf la lb w
set_option maxHeartbeats 1600000 in
set_option maxRecDepth 100000 in
theorem sort_slice_rec (g : Nat) (lb : Array Value) (blk off c : Nat) (d : Array RecR) (w : World) (eg : ∀ args w, (callFunc g args).run Tryd.prog w = .ok (.enter g args) w)
    (less : ∀ (wr : World) (d' : Array RecR), Srt blk off w wr d' → d'.size = d.size → ∀ i j : Nat, i < d.size → j < d.size → Calls Tryd.prog g (#[.int .i64 i, .int .i64 j] ++ lb) wr fun e w' => e = .returned (.bool (lessR d'[i]! d'[j]!)) ∧ Below wr.heap.size wr w')
    (hH : HoldsK encRec 3 w blk off d) (hblk : blk < w.heap.size) (h2 : 2 ≤ d.size) (hsz : d.size ≤ 1048576) :
    Calls Tryd.prog 40 #[.iface 50 (.slice (some ⟨blk, off, none⟩) d.size c), .func (.func g) #[] lb] w fun e w' => e = .returned (.tuple #[]) ∧ ∃ d', d'.toList = sortL d.toList ∧ d'.size = d.size ∧ Srt blk off w w' d' := by
  obtain ⟨iT, hT, dT⟩ := recT
  obtain ⟨iE, hE, sE, pE, bE⟩ := recE
  have hk : Lib.swapperK d.size iE 25 = 9 := by rw [recK pE bE, if_neg (by omega), if_neg (by omega)]
  have hB : sliceBound Tryd.prog 54 iE 25 (some ⟨blk, off, none⟩) d.size c = #[.slice (some ⟨blk, off, none⟩) d.size c, typeHandle Tryd.prog 54] := by
    unfold sliceBound; rw [if_neg (by rw [hk]; omega)]
  have hbW : Below w.heap.size w (sliceWorld Tryd.prog Tryd.sl6_ren 50 (some ⟨blk, off, none⟩) d.size c w) := by
    unfold sliceWorld
    exact ((Below.refl _ _).alloc (Nat.le_refl _) _).alloc (by simp) _
  have hx : ∀ args W, (callFunc 64 args).run Tryd.prog W = ((Extern.ReflectliteSwapper.swap false args).run Tryd.prog W).andThen fun v w' => .ok (.value v) w' :=
    fun args W => run_callFunc_extern Tryd.func64 (by kernel_rfl) (by kernel_rfl) (by kernel_rfl) (e := Extern.ReflectliteSwapper.swap false) (by kernel_rfl) args W
  have hsw := swapSwapsK_of_literal (P := Tryd.prog) false 64 hx 54 iE hE encRec 3 (fun _ => rfl) sE (fun _ => by kernel_rfl) (fun x v hv => by simp [encRec] at hv; rcases hv with rfl | rfl | rfl <;> rfl) blk off d.size c
  have hlim : Lib.bitLen d.size < 4611686018427387904 := Nat.lt_of_le_of_lt (Lib.bitLen_le d.size 62 (by omega) (by omega)) (by omega)
  refine (Any.sort_Slice_of_pdq (P := Tryd.prog) (ρ := Tryd.sl6_ren) Tryd.sl6 50 54 iT iE hT dT (by kernel_rfl) hE 25 (fun _ => by kernel_rfl) (some ⟨blk, off, none⟩) d.size c (by omega) 64 (by rw [hk]; kernel_rfl) (.func g) #[] lb w
    (fun w' => Srt blk off (sliceWorld Tryd.prog Tryd.sl6_ren 50 (some ⟨blk, off, none⟩) d.size c w) w' (Sort.pdq lessR d 0 d.size (Lib.bitLen d.size) true true)) ?_).mono ?_
  · rw [hB]
    generalize sliceWorld Tryd.prog Tryd.sl6_ren 50 (some ⟨blk, off, none⟩) d.size c w = wS at hbW ⊢
    have E : SEnv g 64 lb #[.slice (some ⟨blk, off, none⟩) d.size c, typeHandle Tryd.prog 54] blk off d.size wS :=
      ⟨eg, fun wr d' T => less wr d' (T.base hbW hblk), hsw, by omega⟩
    have hS : Srt blk off wS wS d := Srt.start (holdsK_block hH (hbW.block blk hblk)) (Nat.lt_of_lt_of_le hblk hbW.size)
    exact srt_pdq g _ lb _ blk off d.size (d.size + 1) 0 d.size (Lib.bitLen d.size) d wS (by omega) E hS rfl (Nat.zero_le _) (Nat.le_refl _) hlim (Or.inl rfl)
  · rintro e w' ⟨rfl, T⟩
    obtain ⟨hP, hSo⟩ := pdq_sorts' d 0 d.size (Lib.bitLen d.size) true true (Nat.zero_le _) (Nat.le_refl _) (Or.inl rfl)
    exact ⟨rfl, _, Sort.sorted_unique_holds swo_less less_anti d _ hP hSo, hP.1, T.base hbW hblk⟩
end Go.Proofs.YthffmjeodoinlaaDoor
