/- SortOne of the program: what it computes. -/
import Derived.Test.YthffmjeodoinlaaDoorSrtG
import Derived.Test.YthffmjeodoinlaaDoorApp
import Derived.Test.YthffmjeodoinlaaDoorMerge
namespace Go.Proofs.YthffmjeodoinlaaDoor
open Go.RowKit Go.Lib
open Go.Sort (HoldsK)
theorem flat_get3 : ∀ (xs : List RecR) (j : Nat), (xs.flatMap encRec)[j]? = if j < xs.length * 3 then (encRec (xs.getD (j / 3) default))[j % 3]? else none := by
  intro xs
  induction xs with
  | nil => intro j; simp
  | cons x r ih =>
    intro j
    rw [List.flatMap_cons]
    by_cases h : j < 3
    · rw [List.getElem?_append_left (by show j < 3; exact h), if_pos (by rw [List.length_cons]; omega), show j / 3 = 0 by omega, show j % 3 = j by omega]
      rfl
    · rw [List.getElem?_append_right (by show 3 ≤ j; omega), show (encRec x).length = 3 from rfl, ih]
      have e1 : j / 3 = (j - 3) / 3 + 1 := by omega
      have e2 : (j - 3) % 3 = j % 3 := by omega
      rw [e1, e2]
      by_cases k : j - 3 < r.length * 3
      · rw [if_pos k, if_pos (by rw [List.length_cons]; omega)]
        rfl
      · rw [if_neg k, if_neg (by rw [List.length_cons]; omega)]
theorem flatK_get (d : Array RecR) (j : Nat) (h : j < d.size * 3) : some (Sort.flatK encRec 3 d)[j]! = (d.toList.flatMap encRec)[j]? := by
  rw [Sort.get_flatK _ _ _ _ h, flat_get3, if_pos (by simpa using h)]
  have hj : j / 3 < d.size := by omega
  have e : d.toList.getD (j / 3) default = d[j / 3]! := by
    rw [getElem!_pos d _ hj, List.getD_eq_getElem?_getD, Array.getElem?_toList, Array.getElem?_eq_getElem hj]
    rfl
  rw [e]
  generalize d[j / 3]! = x
  have : j % 3 = 0 ∨ j % 3 = 1 ∨ j % 3 = 2 := by omega
  rcases this with e | e | e <;> rw [e] <;> rfl
theorem holds_of_own {w : World} {B g n cap : Nat} {e : TypeId} {xs : List RecR} (h : w.ownsRow B e 3 (.slice (some ⟨g, 0, none⟩) n cap) n (xs.flatMap encRec)) (hx : xs.length = n) : HoldsK encRec 3 w g 0 xs.toArray := fun j hj => by
  have hj' : j < xs.toArray.size * 3 := by simpa using hj
  rw [Nat.zero_add]
  refine ⟨?_, h.frozenAt j⟩
  rw [h.cellAt j (by rw [← hx]; simpa using hj')]
  exact (flatK_get xs.toArray j hj').symm
theorem own_of_holds {w w' : World} {B g n cap : Nat} {e : TypeId} {xs : List Value} {d : Array RecR} (h : w.ownsRow B e 3 (.slice (some ⟨g, 0, none⟩) n cap) n xs) (S : Srt g 0 w w' d) (hn : d.size = n) : w'.ownsRow B e 3 (.slice (some ⟨g, 0, none⟩) n cap) n (d.toList.flatMap encRec) := by
  have hl : (d.toList.flatMap encRec).length = n * 3 := by
    rw [List.length_flatMap]
    have : (d.toList.map fun a => (encRec a).length) = List.replicate d.size 3 := by
      rw [List.eq_replicate_iff]
      exact ⟨by simp, fun b hb => by simp at hb; obtain ⟨a, _, rfl⟩ := hb; rfl⟩
    rw [this, List.sum_replicate_nat, hn]
  refine ⟨hl, ?_⟩
  rcases h.2 with ⟨hv, _⟩ | ⟨g', cap', cur, hv, hb, hc, hle, hmx, hsz, _⟩
  · cases hv
  · cases hv
    obtain ⟨cur', hc', hs'⟩ := S.form cur e (0, 0) hc
    refine Or.inr ⟨g, cap, cur', rfl, hb, hc', hle, hmx, by rw [hs', hsz], ?_⟩
    apply List.ext_getElem?
    intro j
    rw [List.getElem?_take]
    by_cases hj : j < n * 3
    · rw [if_pos hj, Array.getElem?_toList]
      have := (S.hold j (by simp; omega)).1
      rw [Nat.zero_add] at this
      rw [← flatK_get d j (by omega), show some (Sort.flatK encRec 3 d)[j]! = some (id (Sort.flatK encRec 3 d)[j]!) from rfl, ← this]
      exact (cell_of_row w' g j cur' e (0, 0) hc').symm
    · rw [if_neg hj, List.getElem?_eq_none (by omega)]
set_option maxHeartbeats 1600000 in
set_option maxRecDepth 100000 in
theorem less_closure (i j Bs blk off n c : Nat) (d : Array RecR) (w : World) (hB : w.cell? ⟨Bs, 0, none⟩ = some (.slice (some ⟨blk, off, none⟩) n c)) (hH : HoldsK encRec 3 w blk off d) (hn : d.size = n) (hi : i < n) (hj : j < n) (_hm : n ≤ 1048576) :
    Calls Tryd.prog 41 #[.int .i64 i, .int .i64 j, .pointer (some ⟨Bs, 0, none⟩)] w fun e w' => e = .returned (.bool (lessR d[i]! d[j]!)) ∧ Below w.heap.size w w' := by
  have k0 := (hH.cell (i := i) (c := 0) (by omega) (by omega)).1
  have k1 := (hH.cell (i := i) (c := 1) (by omega) (by omega)).1
  have k2 := (hH.cell (i := i) (c := 2) (by omega) (by omega)).1
  have l0 := (hH.cell (i := j) (c := 0) (by omega) (by omega)).1
  have l1 := (hH.cell (i := j) (c := 1) (by omega) (by omega)).1
  have l2 := (hH.cell (i := j) (c := 2) (by omega) (by omega)).1
  generalize d[i]! = x at *
  generalize d[j]! = y at *
  change w.cell? ⟨blk, off + i * 3, none⟩ = some (.int .i64 x.a) at k0
  change w.cell? _ = some (.int .i64 x.b) at k1
  change w.cell? _ = some (.int .i64 x.c) at k2
  change w.cell? ⟨blk, off + j * 3, none⟩ = some (.int .i64 y.a) at l0
  change w.cell? _ = some (.int .i64 y.b) at l1
  change w.cell? _ = some (.int .i64 y.c) at l2
  have hii : (i : Int) < (n : Int) := by omega
  have hji : (j : Int) < (n : Int) := by omega
  clear hH hn hi hj
  go_enter Tryd.func41, Tryd.ntmps41
  go_wp2_with fail
  go_region_held3 (fun w' => w'.cell? ⟨Bs, 0, none⟩ = some (.slice (some ⟨blk, off, none⟩) n c) ∧ w'.cell? ⟨blk, off + i * 3, none⟩ = some (.int .i64 x.a) ∧ w'.cell? ⟨blk, off + i * 3 + 1, none⟩ = some (.int .i64 x.b) ∧ w'.cell? ⟨blk, off + i * 3 + 2, none⟩ = some (.int .i64 x.c) ∧ w'.cell? ⟨blk, off + j * 3, none⟩ = some (.int .i64 y.a) ∧ w'.cell? ⟨blk, off + j * 3 + 1, none⟩ = some (.int .i64 y.b) ∧ w'.cell? ⟨blk, off + j * 3 + 2, none⟩ = some (.int .i64 y.c) ∧ Below w.heap.size w w') (first | exact keepd7 (by assumption) | exact keep7 (by assumption) (Nat.le_refl _) (by assumption) | exact ⟨hB, k0, k1, k2, l0, l1, l2, (Below.refl _ _).drew⟩) (first | (go_at_call 34; refine (lessR_impl x y _).mono ?_; rintro e wa ⟨rfl, hba⟩))
  have hb2 : Below w.heap.size w _ := tail7 (by assumption)
  clear hB k0 k1 k2 l0 l1 l2
  go_wp2
  go_ret
  exact ⟨rfl, hb2⟩
theorem sortL_one (l : List RecR) (h : l.length ≤ 1) : sortL l = l := by
  match l, h with
  | [], _ => simp [sortL]
  | [a], _ => simp [sortL]
theorem news_rec {w : World} {a : Option Addr} {n c : Nat} {xs : List RecR} (h : Rd encRec 3 w a n c xs) : ∀ ad', a = some ad' → ∀ (j : Nat) (u : Value), (xs.flatMap encRec)[j]? = some u → w.cell? (ad'.add j) = some u := by
  intro ad had j u hu
  rw [flat_get3] at hu
  split at hu
  · rename_i hj
    have hjx : j / 3 < xs.length := by omega
    obtain ⟨b, off, ha, _, hc⟩ := h.spot (by have := h.len; omega)
    rw [ha] at had
    cases had
    have := hc (j / 3) hjx (j % 3) u (by rw [← hu]; simp [List.getD, hjx])
    rw [Addr.add_lit, ← this]
    congr 2
    omega
  · cases hu
theorem one_rec (xs : List RecR) : ∀ u ∈ xs.flatMap encRec, u.oneCell' = true := by
  intro u hu
  simp only [List.mem_flatMap] at hu
  obtain ⟨x, _, hx⟩ := hu
  simp [encRec] at hx
  rcases hx with rfl | rfl | rfl <;> rfl
theorem len_rec : ∀ xs : List RecR, (xs.flatMap encRec).length = xs.length * 3
  | [] => rfl
  | x :: r => by rw [List.flatMap_cons, List.length_append, len_rec r, List.length_cons, Nat.succ_mul, show (encRec x).length = 3 from rfl]; omega
theorem below_grow (w : World) (os : Array Obj) : Below w.heap.size w (Sort.grow w os) := ⟨rfl, rfl, rfl, by simp, fun _ hk => Sort.heap_grow_old w os hk⟩
theorem len_sortL (l : List RecR) : (sortL l).length = l.length := by unfold sortL; exact List.length_mergeSort l
set_option maxHeartbeats 3200000 in
set_option maxRecDepth 100000 in
theorem sortOne_impl (a : Option Addr) (n c : Nat) (xs : List RecR) (w : World) (h : Rd encRec 3 w a n c xs) (hn : n ≤ 1048576) :
    Calls Tryd.prog 35 #[.slice a n c] w fun e w' => RetRecs (sortL xs) w e w' := by
  obtain ⟨i0, hi, hz0, hz1, hz2⟩ := info_parts infoRec
  have hL := h.len
  have HN := Lib.hid h
  clear h
  have eg : ∀ args w, (callFunc 41 args).run Tryd.prog w = .ok (.enter 41 args) w := enters_of Tryd.func41 (by kernel_rfl) rfl
  go_enter Tryd.func35, Tryd.ntmps35
  go_wp2_with (at_builtin; refine app_any rfl _ _ 50 rfl w.heap.size 54 Tryd.underlying50 hi hz0 hz1 hz2 rfl (by decide) none 0 0 [] rfl (World.ownsRow_nil _ _ _ _) a n c (xs.flatMap encRec) rfl ?c1 (news_rec HN.out) (fun ha => HN.out.none ha) (one_rec xs) ?c2 ?c3 (Nat.le_refl _) ?_)
  case c1 => rw [len_rec, hL]
  case c2 => unfold maxLen; omega
  case c3 => omega
  intro A C w1 ho hb1
  clear hi hz0 hz1 hz2
  have hal := (Below.refl w1.heap.size w1).alloc (Nat.le_refl _) (.cells #[.slice A n C] 50)
  have BB := hb1.trans (hal.mono hb1.size)
  by_cases h1 : n ≤ 1
  · have q := sort_slice_tiny A n C h1 (.func 41) #[] #[.pointer (some ⟨w1.heap.size, 0, none⟩)] (w1.alloc (.cells #[.slice A n C] 50))
    have HS := Lib.hid (sortL_one xs (by omega))
    have HO := Lib.hid ho
    clear ho
    go_wp2_with fail
    refine q.mono ?_
    rintro e w2 ⟨rfl, os, hw2⟩
    have hb2 : Below (w1.alloc (.cells #[.slice A n C] 50)).heap.size (w1.alloc (.cells #[.slice A n C] 50)) w2 := by rw [hw2]; exact below_grow _ _
    have hc : w2.cell? ⟨w1.heap.size, 0, none⟩ = some (.slice A n C) := by rw [(bcell hb2).1 _ _ (by simp)]; simp [go_sem]
    have hB := BB.trans (hb2.mono BB.size)
    have ho2 := own_below HO.out (hal.trans (hb2.mono hal.size)) (Nat.le_refl _)
    clear hw2 hb2 q
    go_wp2
    go_ret
    exact ⟨⟨A, n, C, xs⟩, rfl, HS.out.symm, ⟨OwnS.of ho2 hL (show n ≤ _ by omega)⟩, hn, hB⟩
  · obtain ⟨g, rfl⟩ := own_some ho (by omega)
    have hg := (World.ownsRow.lt ho g rfl)
    have hoA := own_below ho hal (Nat.le_refl _)
    have hcA : (w1.alloc (.cells #[.slice (some ⟨g, 0, none⟩) n C] 50)).cell? ⟨w1.heap.size, 0, none⟩ = some (.slice (some ⟨g, 0, none⟩) n C) := by simp [go_sem]
    have q := sort_slice_rec 41 #[.pointer (some ⟨w1.heap.size, 0, none⟩)] g 0 C xs.toArray (w1.alloc (.cells #[.slice (some ⟨g, 0, none⟩) n C] 50)) eg
      (fun wr d' T hs i j hi hj => less_closure i j w1.heap.size g 0 n C d' wr (cell_win T.win hcA (by omega)) T.hold (by rw [hs]; simpa using hL) (by simp at hi; omega) (by simp at hj; omega) hn)
      (holds_of_own hoA hL) (by simp; omega) (by simp; omega) (by simp; omega)
    rw [show xs.toArray.size = n from by simpa using hL] at q
    have HO := Lib.hid hoA
    clear hoA ho hcA
    go_wp2_with fail
    refine q.mono ?_
    rintro e w2 ⟨rfl, d', hd', hs', T⟩
    have hc : w2.cell? ⟨w1.heap.size, 0, none⟩ = some (.slice (some ⟨g, 0, none⟩) n C) := cell_win T.win (by simp [go_sem]) (by omega)
    have ho2 := own_of_holds HO.out T hs'
    have hB : Below w.heap.size w w2 := BB.trans (T.win.below (by omega) BB.size)
    have HD := Lib.hid hd'
    rw [hd'] at ho2
    clear q T hd'
    go_wp2
    go_ret
    exact ⟨⟨some ⟨g, 0, none⟩, n, C, sortL xs⟩, rfl, rfl, ⟨OwnS.of ho2 (by rw [len_sortL]; exact hL) (show n ≤ _ by omega)⟩, hn, hB⟩
theorem sortOne_impl_k (y : Row RecR) (D : List RecR) (hD : datRecS y = D) (w : World) (g : rdRecS w y) (hn : bulkRecS y ≤ 1048576) :
    Calls Tryd.prog 35 #[.slice y.a y.n y.c] w fun e w' => RetRecs (sortL D) w e w' := by
  subst hD
  exact sortOne_impl _ _ _ _ _ g hn
end Go.Proofs.YthffmjeodoinlaaDoor
