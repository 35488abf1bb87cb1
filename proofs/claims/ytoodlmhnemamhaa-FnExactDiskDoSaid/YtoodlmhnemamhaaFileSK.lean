/- The kind FileS: rows of File, each with a row of its own. -/
import Derived.Test.YtoodlmhnemamhaaFileK
import Derived.Test.YtoodlmhnemamhaaNest
import Derived.Test.YtoodlmhnemamhaaKeep
namespace Go.Proofs.Ytoodlmhnemamhaa
open Go.RowKit
def zFile : FileR := ⟨⟨#[]⟩, none, 0, 0, []⟩
def atFile (xs : List FileR) (j : Nat) : FileR := xs.getD j zFile
theorem atFile_eq (xs : List FileR) (j : Nat) (h : j < xs.length) : atFile xs j = xs[j] := by simp [atFile, List.getD, h]
theorem lenFile : ∀ x : FileR, (encFile x).length = 2 := fun _ => rfl
theorem Rd.rowFile {w : World} {a : Option Addr} {n cap : Nat} {xs : List FileR} (h : Rd encFile 2 w a n cap xs) (hn : 0 < n) :
    ∃ b off, a = some ⟨b, off, none⟩ ∧ b < w.heap.size ∧ ∀ j, j < n → w.cell? ⟨b, off + j * 2, none⟩ = some (.string (atFile xs j).name) ∧ w.cell? ⟨b, off + j * 2 + 1, none⟩ = some (.slice (atFile xs j).dataA (atFile xs j).dataN (atFile xs j).dataC) := by
  obtain ⟨b, off, ha, hl, hc⟩ := h.spot hn
  refine ⟨b, off, ha, hl, fun j hj => ?_⟩
  have hj' : j < xs.length := by rw [h.len]; exact hj
  rw [atFile_eq xs j hj']
  exact ⟨hc j hj' 0 (.string xs[j].name) rfl, hc j hj' 1 (.slice xs[j].dataA xs[j].dataN xs[j].dataC) rfl⟩
def slFile (x : FileR) : Row Int := ⟨x.dataA, x.dataN, x.dataC, x.data⟩
def datFileS (y : Row FileR) : List (ByteArray × List Int) := y.l.map datFile
def rdFileS (w : World) (y : Row FileR) : Prop := RdN encFile 2 (encI .u8) 1 slFile w y
theorem rdFileS_below {w w' : World} {y : Row FileR} (h : rdFileS w y) {B : Nat} (hb : Below B w w') (hB : w.heap.size ≤ B) : rdFileS w' y := RdN.below h hb hB
structure OwnFileS (lo hi : Nat) (w : World) (y : Row FileR) : Prop where
  nest : OwnN encFile 2 71 (encI .u8) 1 5 slFile lo hi w y
theorem OwnFileS.below {lo hi : Nat} {w w' : World} {y : Row FileR} (h : OwnFileS lo hi w y) (hb : Below w.heap.size w w') : OwnFileS lo hi w' y := ⟨h.nest.below hb⟩
theorem OwnFileS.win {lo hi lo' hi' : Nat} {w w' : World} {y : Row FileR} (h : OwnFileS lo hi w y) (hw : Win lo' hi' w w') (hd : hi' ≤ lo ∨ hi ≤ lo') : OwnFileS lo hi w' y := ⟨h.nest.win hw hd⟩
theorem OwnFileS.lo_le {lo hi lo' : Nat} {w : World} {y : Row FileR} (h : OwnFileS lo hi w y) (hl : lo' ≤ lo) : OwnFileS lo' hi w y := ⟨h.nest.lo_le hl⟩
theorem OwnFileS.rd {lo hi : Nat} {w : World} {y : Row FileR} (h : OwnFileS lo hi w y) : rdFileS w y := h.nest.rd lenFile (show ∀ x, (encI .u8 x).length = 1 from fun _ => rfl)
def preFile (xs : List FileR) (j : Nat) : Nat := ((xs.take j).map bulkFile).sum
theorem preFile_succ (xs : List FileR) (j : Nat) (h : j < xs.length) : preFile xs (j + 1) = preFile xs j + bulkFile (atFile xs j) := by
  unfold preFile
  rw [List.take_succ_eq_append_getElem h, atFile_eq xs j h, List.map_append, List.sum_append]
  simp only [List.map_cons, List.map_nil, List.sum_cons, List.sum_nil, Nat.add_zero]
theorem preFile_le (xs : List FileR) : ∀ d j, preFile xs j ≤ preFile xs (j + d) := by
  intro d
  induction d with
  | zero => intro j; exact Nat.le_refl _
  | succ d ih =>
    intro j
    refine Nat.le_trans (ih j) ?_
    by_cases h : j + d < xs.length
    · rw [show j + (d + 1) = j + d + 1 from by omega, preFile_succ xs _ h]; omega
    · unfold preFile
      rw [List.take_of_length_le (show xs.length ≤ j + d by omega), List.take_of_length_le (show xs.length ≤ j + (d + 1) by omega)]
      exact Nat.le_refl _
theorem preFile_top (xs : List FileR) (j : Nat) (h : j < xs.length) : preFile xs j + bulkFile (atFile xs j) ≤ preFile xs xs.length := by
  rw [← preFile_succ xs j h]
  have := preFile_le xs (xs.length - (j + 1)) (j + 1)
  rw [show j + 1 + (xs.length - (j + 1)) = xs.length from by omega] at this
  exact this
def bulkFileS (y : Row FileR) : Nat := y.n + preFile y.l y.l.length
def strFile (x : FileR) : Prop := x.name.size ≤ maxLen
set_option maxHeartbeats 1600000 in
theorem szFileS_k (y : Row FileR) (left : Int) (w : World) (g : rdFileS w y) (hs : ∀ x ∈ y.l, strFile x) (h1 : 0 ≤ left) (h2 : left ≤ 1048576) :
    Calls Try.prog 46 #[.slice y.a y.n y.c, .int .i64 left] w fun e w' => e = .returned (.int .i64 (leftB left (bulkFileS y))) ∧ Below w.heap.size w w' := by
  obtain ⟨a, n, c, xs⟩ := y
  obtain ⟨gr, gi⟩ := g
  simp only at gr gi hs ⊢
  have hm := gr.max
  have hle := gr.le
  have hL := Lib.hid gr.len
  unfold maxLen at hm
  have HB : Hid (bulkFileS ⟨a, n, c, xs⟩ = n + preFile xs n) := Lib.hid (by unfold bulkFileS; simp only; rw [hL.out])
  by_cases h0 : left < n
  · have HL := Lib.hid (leftB_no (left := left) (n := n + preFile xs n) (by omega))
    go_enter Try.func46, Try.ntmps46
    go_wp2
    go_ret
    exact ⟨by rw [HB.out, HL.out] <;> rfl, Below.refl _ _⟩
  · go_enter Try.func46, Try.ntmps46
    go_wp2
    go_loopw [1, 5] (fun q i wr => ∃ j : Nat, j ≤ n ∧ i = .int .i64 j ∧ q = .int .i64 (left - n - (preFile xs j : Int)) ∧ ((n + preFile xs j : Nat) : Int) ≤ left ∧ Below w.heap.size w wr) (fun _ i _ => n - (intOf i).toNat)
    case atStart => exact ⟨0, Nat.zero_le _, rfl, by unfold preFile; simp, by unfold preFile; simp; omega, Below.refl _ _⟩
    case round =>
      obtain ⟨j, hj, rfl, rfl, hq, hb⟩ := hrel
      by_cases hlt : j < n
      · obtain ⟨b, off, rfl, hbl, hc⟩ := gr.rowFile (by omega)
        obtain ⟨k0, k1⟩ := hc j hlt
        have cb : ∀ o, wr.cell? ⟨b, o, none⟩ = w.cell? ⟨b, o, none⟩ := fun o => hb.cell (p := ⟨b, o, none⟩) hbl
        rw [← cb] at k0 k1
        have hjx : j < xs.length := by rw [hL.out]; exact hlt
        have hps := preFile_succ xs j hjx
        have htop := preFile_top xs j hjx
        rw [hL.out] at htop
        have HP := Lib.hid hps
        have rdx : rdFile wr (atFile xs j) := by
          rw [atFile_eq xs j hjx]
          exact rdFile_below (gi _ (List.getElem_mem hjx)) hb (Nat.le_refl _)
        have hsx : strFile (atFile xs j) := by rw [atFile_eq xs j hjx]; exact hs _ (List.getElem_mem hjx)
        have hi1 : (j : Int) < (n : Int) := by omega
        clear hc cb gi gr hps hs
        generalize atFile xs j = x at *
        generalize hpj : preFile xs j = pj at *
        clear hpj
        by_cases hx : left - (n : Int) - (pj : Int) < ((bulkFile x : Nat) : Int)
        · have HN := Lib.hid (leftB_no hx)
          have HL := Lib.hid (leftB_no (left := left) (n := n + preFile xs n) (by omega))
          clear hx
          go_wp2_with fail
          refine (szFile_k x _ _ rdx hsx (by omega) (by omega)).mono ?_
          rintro e w2 ⟨rfl, hb2⟩
          rw [HN.out]
          go_wp2
          go_ret
          exact ⟨by rw [HB.out, HL.out] <;> rfl, hb.trans (hb2.mono hb.size)⟩
        · have HN := Lib.hid (leftB_yes hx)
          go_wp2_with fail
          refine (szFile_k x _ _ rdx hsx (by omega) (by omega)).mono ?_
          rintro e w2 ⟨rfl, hb2⟩
          rw [HN.out]
          have hb3 := hb.trans (hb2.mono hb.size)
          go_wp2
          go_roundw
          case rel => exact ⟨j + 1, by omega, by go_num, by rw [HP.out]; go_num, by rw [HP.out]; omega, hb3⟩
          case measure => simp [intOf]; omega
      · obtain rfl : j = n := by omega
        have HL := Lib.hid (leftB_yes (left := left) (n := j + preFile xs j) (by omega))
        go_wp2
        go_ret
        exact ⟨by rw [HB.out, HL.out]; go_num, hb⟩
theorem infoFile : (Try.prog.info? 71).map (fun i => (i.zero, i.size, i.bytes)) = some (some (.agg (encFile zFile).toArray), 2, 40) := by kernel_rfl
def RetFileS (y : Row FileR) (w : World) (en : Ending) (w' : World) : Prop := ∃ y' : Row FileR, en = .returned (.slice y'.a y'.n y'.c) ∧ datFileS y' = datFileS y ∧ OwnFileS w.heap.size w'.heap.size w' y' ∧ bulkFileS y' = bulkFileS y ∧ Below w.heap.size w w'
set_option maxHeartbeats 1600000 in
theorem toFileS_r (y : Row FileR) (w : World) (g : rdFileS w y) (hn : bulkFileS y ≤ 1048576) : Calls Try.prog 51 #[.slice y.a y.n y.c] w fun e w' => RetFileS y w e w' := by
  obtain ⟨a, n, c, xs⟩ := y
  obtain ⟨gr, gi⟩ := g
  simp only at gr gi ⊢
  have hm := gr.max
  have hle := gr.le
  have hL := Lib.hid gr.len
  unfold maxLen at hm
  have hn2 : n + preFile xs n ≤ 1048576 := by unfold bulkFileS at hn; simp only at hn; rw [hL.out] at hn; exact hn
  clear hn
  obtain ⟨i0, hi, hz0, hz1, hz2⟩ := info_parts infoFile
  go_enter Try.func51, Try.ntmps51
  go_wp2_with (at_make; refine wpList_make_full _ rfl _ _ 31 rfl w.heap.size 71 i0 (.agg (encFile zFile).toArray) 2 Try.underlying31 hi hz0 hz1 _ _ _ _ n rfl rfl rfl rfl ?b1 ?b2 ?b3 ?_)
  case b1 => rw [hz2]; omega
  case b2 => unfold maxLen; omega
  case b3 => simp
  intro w1 hown hgrow
  have hbel := below_grown hgrow (Nat.le_refl _) (by simp)
  have hN1 : OwnN encFile 2 71 (encI .u8) 1 5 slFile w.heap.size w1.heap.size w1 ⟨some ⟨w.heap.size, 0, none⟩, n, n, [] ++ List.replicate (n - 0) zFile⟩ := by
    have e := made_flat encFile zFile (by decide) n 2 rfl
    have hown' : w1.ownsRow w.heap.size 71 2 (.slice (some ⟨w.heap.size, 0, none⟩) n n) n ((List.replicate n zFile).flatMap encFile) := by rw [← e]; first | exact hown | simpa using hown
    have hsz : w.heap.size < w1.heap.size := (hown'.lt _ rfl).2
    refine ⟨OwnS.of (by simpa using hown') (by simp) (show n ≤ _ by omega), ?_, ?_, ?_⟩
    · intro i hi0
      have : ([] ++ List.replicate (n - 0) zFile)[i]'hi0 = zFile := by simp
      rw [this]
      exact ⟨rfl, World.ownsRow_nil _ _ _ _, fun g hg => by simp [slFile, zFile, Value.ownBlock] at hg, Nat.le_refl _, by decide⟩
    · intro i hi0 g hg
      have : ([] ++ List.replicate (n - 0) zFile)[i]'hi0 = zFile := by simp
      rw [this] at hg
      simp [blkR, slFile, zFile, Value.ownBlock] at hg
    · intro i i' hi0 hi0' _ g hg
      have : ([] ++ List.replicate (n - 0) zFile)[i]'hi0 = zFile := by simp
      rw [this] at hg
      simp [blkR, slFile, zFile, Value.ownBlock] at hg
  clear hown hgrow hi hz0 hz1 hz2
  go_wp2
  go_loopw [4] (fun i wr => ∃ (k : Nat) (ds : List FileR), k ≤ n ∧ i = .int .i64 k ∧ ds.length = k ∧ ds.map datFile = (xs.take k).map datFile ∧ ds.map bulkFile = (xs.take k).map bulkFile ∧ OwnN encFile 2 71 (encI .u8) 1 5 slFile w.heap.size wr.heap.size wr ⟨some ⟨w.heap.size, 0, none⟩, n, n, ds ++ List.replicate (n - k) zFile⟩ ∧ Below w.heap.size w wr) (fun i _ => n - (intOf i).toNat)
  case atStart => exact ⟨0, [], Nat.zero_le _, rfl, rfl, rfl, rfl, hN1, hbel⟩
  case round =>
    obtain ⟨k, ds, hk, rfl, hdl, hdd, hdb, hN, hb⟩ := hrel
    have HDL := Lib.hid hdl
    have HDD := Lib.hid hdd
    have HDB := Lib.hid hdb
    clear hdl hdd hdb hN1 hbel
    by_cases hlt : k < n
    · obtain ⟨b, off, rfl, hbl, hc⟩ := gr.rowFile (by omega)
      obtain ⟨k0, k1⟩ := hc k hlt
      have cb : ∀ o, wr.cell? ⟨b, o, none⟩ = w.cell? ⟨b, o, none⟩ := fun o => hb.cell (p := ⟨b, o, none⟩) hbl
      rw [← cb] at k0 k1
      have hkx : k < xs.length := by rw [hL.out]; exact hlt
      have htop := preFile_top xs k hkx
      rw [hL.out] at htop
      have rdx : rdFile wr (atFile xs k) := by
        rw [atFile_eq xs k hkx]
        exact rdFile_below (gi _ (List.getElem_mem hkx)) hb (Nat.le_refl _)
      have HT := Lib.hid (show xs.take (k + 1) = xs.take k ++ [atFile xs k] from by rw [List.take_succ_eq_append_getElem hkx, atFile_eq xs k hkx])
      have hi1 : (k : Int) < (n : Int) := by omega
      clear hc cb gi gr
      generalize atFile xs k = x at *
      go_wp2_with fail
      refine (toFile_k x _ rdx (by omega)).mono ?_
      rintro e w2 ⟨y', rfl, hd', ho', hk', hb2⟩
      have HD' := Lib.hid hd'
      have HK' := Lib.hid hk'
      clear hd' hk' k0 k1
      have hNo : w2.ownsRow w.heap.size 71 2 (.slice (some ⟨w.heap.size, 0, none⟩) n n) n ((ds ++ List.replicate (n - k) zFile).flatMap encFile) := own_below hN.row.own hb2 (Nat.le_refl _)
      have hkl : k < (ds ++ List.replicate (n - k) zFile).length := by simp [HDL.out]; omega
      have hset := flat_set encFile 2 lenFile (ds ++ List.replicate (n - k) zFile) k hkl y'
      have hlist : (ds ++ List.replicate (n - k) zFile).set k y' = (ds ++ [y']) ++ List.replicate (n - (k + 1)) zFile := by
        rw [List.set_append_right _ _ (by rw [HDL.out]; exact Nat.le_refl _), HDL.out, Nat.sub_self, show n - k = (n - (k + 1)) + 1 from by omega, List.replicate_succ, List.set_cons_zero, List.append_assoc]
        rfl
      have hold : (ds ++ List.replicate (n - k) zFile)[k]'hkl = zFile := by
        rw [List.getElem_append_right (by rw [HDL.out]; exact Nat.le_refl _)]
        simp
      have HOLD := Lib.hid hold
      have HLI := Lib.hid hlist
      have HS := Lib.hid hset
      have hsz2 : wr.heap.size ≤ w2.heap.size := hb2.size
      have hszw : w.heap.size < wr.heap.size := by have := hN.row.lt _ rfl; have := hN.row.top; omega
      have HN := Lib.hid hN
      clear hset hlist hold hN
      have hf0 := hNo.frozenAt (k * 2)
      have hf1 := hNo.frozenAt (k * 2 + 1)
      have hd : ∀ i, i < 2 → ∃ d, w2.cell? ⟨w.heap.size, k * 2 + i, none⟩ = some d := fun i hi => by
        rw [hNo.cellAt _ (by omega)]
        exact ⟨_, List.getElem?_eq_getElem (by rw [hNo.1]; omega)⟩
      obtain ⟨d0, hd0⟩ := hd 0 (by omega)
      obtain ⟨d1, hd1⟩ := hd 1 (by omega)
      simp only [Nat.add_zero] at hd0
      clear hd
      have s0 := (hNo.stored (k * 2) (.string y'.name)).1
      have s1 := (s0.stored (k * 2 + 1) (.slice y'.dataA y'.dataN y'.dataC)).1
      have hw := ((Win.set (lo := w.heap.size) (hi := w.heap.size + 1) w2 w.heap.size (k * 2) (.string y'.name) (Nat.le_refl _) (Nat.lt_succ_self _)).trans (Win.set _ w.heap.size (k * 2 + 1) (.slice y'.dataA y'.dataN y'.dataC) (Nat.le_refl _) (Nat.lt_succ_self _)))
      have SL := Lib.hid s1
      have HW := Lib.hid hw
      clear hNo s1 hw
      go_wp2
      go_roundw
      case rel =>
        refine ⟨k + 1, ds ++ [y'], by omega, by go_num, by simp [HDL.out], by rw [HT.out, List.map_append, List.map_append, HDD.out]; simp [HD'.out], by rw [HT.out, List.map_append, List.map_append, HDB.out]; simp [HK'.out], ?_, (hb.trans (hb2.mono hb.size)).trans (HW.out.below (Nat.le_refl _) (by omega))⟩
        rw [← HLI.out]
        have hrow : OwnS encFile 2 71 w.heap.size w2.heap.size _ (some ⟨w.heap.size, 0, none⟩) n n ((ds ++ List.replicate (n - k) zFile).set k y') :=
          ⟨by simp [HDL.out]; omega, by rw [← HS.out]; exact SL.out, fun g hg => by simp [Value.ownBlock] at hg; omega, by simp only [size_set]; exact Nat.le_refl _, by omega⟩
        refine HN.out.put k (by simp [HDL.out]; omega) y' (hrow.grow (by simp only [size_set]; exact Nat.le_refl _) (Nat.le_refl _)) (((ho'.row.win HW.out (Or.inl hszw)).lo_le (by omega)).grow (by simp only [size_set]; exact Nat.le_refl _) (Nat.le_refl _)) ?_ ?_ (by simp only [size_set]; exact hsz2) (Nat.le_refl _)
        · intro g hg
          right
          exact (World.ownsRow.lt ho'.row.own g hg).1
        · intro q hq hne _
          have hqo : q ≠ w.heap.size := fun e => hne (by rw [e]; rfl)
          rw [HW.out.block q (by omega) (by omega), hb2.block q hq]
      case measure => simp [intOf]; omega
    · obtain rfl : k = n := by omega
      have hN2 : OwnN encFile 2 71 (encI .u8) 1 5 slFile w.heap.size wr.heap.size wr ⟨some ⟨w.heap.size, 0, none⟩, k, k, ds⟩ := by simpa using hN
      go_wp2
      go_ret
      have hdd := HDD.out
      have hdb := HDB.out
      rw [List.take_of_length_le (by rw [hL.out]; exact Nat.le_refl _)] at hdd hdb
      refine ⟨⟨some ⟨w.heap.size, 0, none⟩, k, k, ds⟩, rfl, hdd, ⟨hN2⟩, ?_, hb⟩
      unfold bulkFileS preFile
      simp only [List.take_length]
      rw [hdb]
theorem toFileS_k (y : Row FileR) (w : World) (g : rdFileS w y) (hn : bulkFileS y ≤ 1048576) :
    Calls Try.prog 51 #[.slice y.a y.n y.c] w fun e w' => ∃ y' : Row FileR, e = .returned (.slice y'.a y'.n y'.c) ∧ datFileS y' = datFileS y ∧ OwnFileS w.heap.size w'.heap.size w' y' ∧ bulkFileS y' = bulkFileS y ∧ Below w.heap.size w w' := toFileS_r y w g hn
theorem take_succ_datFile {xs ys : List FileR} {k : Nat} (h : (xs.take k).map datFile = (ys.take k).map datFile) (h1 : k < xs.length) (h2 : k < ys.length) (he : datFile (atFile xs k) = datFile (atFile ys k)) : (xs.take (k + 1)).map datFile = (ys.take (k + 1)).map datFile := by
  rw [List.take_succ_eq_append_getElem h1, List.take_succ_eq_append_getElem h2, List.map_append, List.map_append, h]
  rw [atFile_eq xs k h1, atFile_eq ys k h2] at he
  simp [he]
theorem ne_datFile {xs ys : List FileR} {k : Nat} (h1 : k < xs.length) (h2 : k < ys.length) (he : ¬ datFile (atFile xs k) = datFile (atFile ys k)) : ¬ xs.map datFile = ys.map datFile := by
  intro h
  apply he
  have := congrArg (fun l => l[k]?) h
  simp only [List.getElem?_map, List.getElem?_eq_getElem h1, List.getElem?_eq_getElem h2, Option.map_some, Option.some.injEq] at this
  rw [atFile_eq xs k h1, atFile_eq ys k h2]
  exact this
set_option maxHeartbeats 3200000 in
theorem eqFileS_any (a b : Option Addr) (n cap m cap' : Nat) (xs ys : List FileR) (w : World) (h : rdFileS w ⟨a, n, cap, xs⟩) (h' : rdFileS w ⟨b, m, cap', ys⟩) :
    Calls Try.prog 40 #[.slice a n cap, .slice b m cap'] w fun e w' => e = .returned (.bool (decide (xs.map datFile = ys.map datFile))) ∧ Below w.heap.size w w' := by
  obtain ⟨gr, gi⟩ := h
  obtain ⟨gr', gi'⟩ := h'
  simp only at gr gi gr' gi'
  have hL := Lib.hid gr.len
  have hL' := Lib.hid gr'.len
  have hm := gr.max
  have hle := gr.le
  have hm' := gr'.max
  have hle' := gr'.le
  unfold maxLen at hm hm'
  by_cases hnm : n = m
  · subst hnm
    go_enter Try.func40, Try.ntmps40
    go_wp2
    go_loopw [5] (fun i wr => ∃ k : Nat, k ≤ n ∧ i = .int .i64 k ∧ (xs.take k).map datFile = (ys.take k).map datFile ∧ Below w.heap.size w wr) (fun i _ => n - (intOf i).toNat)
    case atStart => exact ⟨0, Nat.zero_le _, rfl, rfl, Below.refl _ _⟩
    case round =>
      obtain ⟨k, hk, rfl, he, hb⟩ := hrel
      have HE := Lib.hid he
      clear he
      by_cases hlt : k < n
      · obtain ⟨b1, off1, rfl, hbl1, hc1⟩ := gr.rowFile (by omega)
        obtain ⟨b2, off2, rfl, hbl2, hc2⟩ := gr'.rowFile (by omega)
        obtain ⟨k0, k1⟩ := hc1 k hlt
        obtain ⟨l0, l1⟩ := hc2 k hlt
        have cb1 : ∀ o, wr.cell? ⟨b1, o, none⟩ = w.cell? ⟨b1, o, none⟩ := fun o => hb.cell (p := ⟨b1, o, none⟩) hbl1
        have cb2 : ∀ o, wr.cell? ⟨b2, o, none⟩ = w.cell? ⟨b2, o, none⟩ := fun o => hb.cell (p := ⟨b2, o, none⟩) hbl2
        rw [← cb1] at k0 k1
        rw [← cb2] at l0 l1
        have kx : k < xs.length := by rw [hL.out]; exact hlt
        have ky : k < ys.length := by rw [hL'.out]; exact hlt
        have rx : rdFile wr (atFile xs k) := by rw [atFile_eq xs k kx]; exact rdFile_below (gi _ (List.getElem_mem kx)) hb (Nat.le_refl _)
        have ry : rdFile wr (atFile ys k) := by rw [atFile_eq ys k ky]; exact rdFile_below (gi' _ (List.getElem_mem ky)) hb (Nat.le_refl _)
        clear hc1 hc2 cb1 cb2 gr gr' gi gi'
        have hi1 : (k : Int) < (n : Int) := by omega
        have HT := Lib.hid (fun he => take_succ_datFile HE.out kx ky he)
        have HN := Lib.hid (fun he => ne_datFile kx ky he)
        have HRX := Lib.hid rx
        have HRY := Lib.hid ry
        clear rx ry
        generalize hx : atFile xs k = x at *
        generalize hy : atFile ys k = y at *
        clear hx hy
        go_wp2_with fail
        go_region_held3 (fun w' => w'.cell? ⟨b1, off1 + k * 2, none⟩ = some (.string x.name) ∧ w'.cell? ⟨b1, off1 + k * 2 + 1, none⟩ = some (.slice x.dataA x.dataN x.dataC) ∧ w'.cell? ⟨b2, off2 + k * 2, none⟩ = some (.string y.name) ∧ w'.cell? ⟨b2, off2 + k * 2 + 1, none⟩ = some (.slice y.dataA y.dataN y.dataC) ∧ Below wr.heap.size wr w') (first | exact keepd4 (by assumption) | exact keep4 (by assumption) (Nat.le_refl _) (by assumption) | exact ⟨k0, k1, l0, l1, (Below.refl _ _).drew⟩) (first | (go_at_call 63; refine (eqFile_k x y _ _ rfl rfl _ (rdFile_below HRX.out (tail4 (by assumption) : Below wr.heap.size wr _) (Nat.le_refl _)) (rdFile_below HRY.out (tail4 (by assumption) : Below wr.heap.size wr _) (Nat.le_refl _))).mono ?_; rintro e wa ⟨rfl, hba⟩))
        have hb2 : Below wr.heap.size wr _ := tail4 (by assumption)
        have hb3 := hb.trans (hb2.mono hb.size)
        by_cases hxy : datFile x = datFile y
        · have HQ := Lib.hid (decide_eq_true hxy)
          have HT2 := Lib.hid (HT.out hxy)
          rw [HQ.out]
          clear hxy HT HN
          go_wp2
          go_roundw
          case rel => exact ⟨k + 1, by omega, by go_num, HT2.out, hb3⟩
          case measure => simp [intOf]; omega
        · have HQ := Lib.hid (decide_eq_false hxy)
          have HT2 := Lib.hid (decide_eq_false (HN.out hxy))
          rw [HQ.out]
          clear hxy HT HN
          go_wp2
          go_ret
          exact ⟨by rw [HT2.out] <;> rfl, hb3⟩
      · obtain rfl : k = n := by omega
        go_wp2
        go_ret
        refine ⟨?_, hb⟩
        have := HE.out
        rw [List.take_of_length_le (by rw [hL.out]; exact Nat.le_refl _), List.take_of_length_le (by rw [hL'.out]; exact Nat.le_refl _)] at this
        simp [this]
  · have hne : ¬ xs.map datFile = ys.map datFile := fun e => hnm (by have := congrArg List.length e; simp only [List.length_map] at this; rw [← hL.out, ← hL'.out, this])
    have hi1 : ((n : Int) != (m : Int)) = true := by simp; omega
    go_enter Try.func40, Try.ntmps40
    go_wp2
    go_ret
    exact ⟨by simp [hne], Below.refl _ _⟩
theorem eqFileS_k (x y : Row FileR) (D D' : List (ByteArray × List Int)) (hD : datFileS x = D) (hD' : datFileS y = D') (w : World) (h : rdFileS w x) (h' : rdFileS w y) :
    Calls Try.prog 40 #[.slice x.a x.n x.c, .slice y.a y.n y.c] w fun e w' => e = .returned (.bool (decide (D = D'))) ∧ Below w.heap.size w w' := by
  subst hD
  subst hD'
  exact eqFileS_any _ _ _ _ _ _ _ _ _ h h'
end Go.Proofs.Ytoodlmhnemamhaa
