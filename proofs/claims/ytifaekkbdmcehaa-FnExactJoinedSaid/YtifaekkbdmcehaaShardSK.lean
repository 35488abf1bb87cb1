/- The kind ShardS: rows of Shard, each with a row of its own. -/
import Derived.Test.YtifaekkbdmcehaaShardK
import Derived.Test.YtifaekkbdmcehaaNest
import Derived.Test.YtifaekkbdmcehaaKeep
namespace Go.Proofs.Ytifaekkbdmcehaa
open Go.RowKit
def zShard : ShardR := ⟨0, 0, none, 0, 0, []⟩
def atShard (xs : List ShardR) (j : Nat) : ShardR := xs.getD j zShard
theorem atShard_eq (xs : List ShardR) (j : Nat) (h : j < xs.length) : atShard xs j = xs[j] := by simp [atShard, List.getD, h]
theorem lenShard : ∀ x : ShardR, (encShard x).length = 3 := fun _ => rfl
theorem Rd.rowShard {w : World} {a : Option Addr} {n cap : Nat} {xs : List ShardR} (h : Rd encShard 3 w a n cap xs) (hn : 0 < n) :
    ∃ b off, a = some ⟨b, off, none⟩ ∧ b < w.heap.size ∧ ∀ j, j < n → w.cell? ⟨b, off + j * 3, none⟩ = some (.int .i64 (atShard xs j).lo) ∧ w.cell? ⟨b, off + j * 3 + 1, none⟩ = some (.int .i64 (atShard xs j).hi) ∧ w.cell? ⟨b, off + j * 3 + 2, none⟩ = some (.slice (atShard xs j).edgesA (atShard xs j).edgesN (atShard xs j).edgesC) := by
  obtain ⟨b, off, ha, hl, hc⟩ := h.spot hn
  refine ⟨b, off, ha, hl, fun j hj => ?_⟩
  have hj' : j < xs.length := by rw [h.len]; exact hj
  rw [atShard_eq xs j hj']
  exact ⟨hc j hj' 0 (.int .i64 xs[j].lo) rfl, hc j hj' 1 (.int .i64 xs[j].hi) rfl, hc j hj' 2 (.slice xs[j].edgesA xs[j].edgesN xs[j].edgesC) rfl⟩
def slShard (x : ShardR) : Row SEdgeR := ⟨x.edgesA, x.edgesN, x.edgesC, x.edges⟩
def datShardS (y : Row ShardR) : List (Int × Int × List SEdgeR) := y.l.map datShard
def rdShardS (w : World) (y : Row ShardR) : Prop := RdN encShard 3 encSEdge 5 slShard w y
theorem rdShardS_below {w w' : World} {y : Row ShardR} (h : rdShardS w y) {B : Nat} (hb : Below B w w') (hB : w.heap.size ≤ B) : rdShardS w' y := RdN.below h hb hB
structure OwnShardS (lo hi : Nat) (w : World) (y : Row ShardR) : Prop where
  nest : OwnN encShard 3 47 encSEdge 5 94 slShard lo hi w y
theorem OwnShardS.below {lo hi : Nat} {w w' : World} {y : Row ShardR} (h : OwnShardS lo hi w y) (hb : Below w.heap.size w w') : OwnShardS lo hi w' y := ⟨h.nest.below hb⟩
theorem OwnShardS.win {lo hi lo' hi' : Nat} {w w' : World} {y : Row ShardR} (h : OwnShardS lo hi w y) (hw : Win lo' hi' w w') (hd : hi' ≤ lo ∨ hi ≤ lo') : OwnShardS lo hi w' y := ⟨h.nest.win hw hd⟩
theorem OwnShardS.lo_le {lo hi lo' : Nat} {w : World} {y : Row ShardR} (h : OwnShardS lo hi w y) (hl : lo' ≤ lo) : OwnShardS lo' hi w y := ⟨h.nest.lo_le hl⟩
theorem OwnShardS.rd {lo hi : Nat} {w : World} {y : Row ShardR} (h : OwnShardS lo hi w y) : rdShardS w y := h.nest.rd lenShard lenSEdge
def preShard (xs : List ShardR) (j : Nat) : Nat := ((xs.take j).map bulkShard).sum
theorem preShard_succ (xs : List ShardR) (j : Nat) (h : j < xs.length) : preShard xs (j + 1) = preShard xs j + bulkShard (atShard xs j) := by
  unfold preShard
  rw [List.take_succ_eq_append_getElem h, atShard_eq xs j h, List.map_append, List.sum_append]
  simp only [List.map_cons, List.map_nil, List.sum_cons, List.sum_nil, Nat.add_zero]
theorem preShard_le (xs : List ShardR) : ∀ d j, preShard xs j ≤ preShard xs (j + d) := by
  intro d
  induction d with
  | zero => intro j; exact Nat.le_refl _
  | succ d ih =>
    intro j
    refine Nat.le_trans (ih j) ?_
    by_cases h : j + d < xs.length
    · rw [show j + (d + 1) = j + d + 1 from by omega, preShard_succ xs _ h]; omega
    · unfold preShard
      rw [List.take_of_length_le (show xs.length ≤ j + d by omega), List.take_of_length_le (show xs.length ≤ j + (d + 1) by omega)]
      exact Nat.le_refl _
theorem preShard_top (xs : List ShardR) (j : Nat) (h : j < xs.length) : preShard xs j + bulkShard (atShard xs j) ≤ preShard xs xs.length := by
  rw [← preShard_succ xs j h]
  have := preShard_le xs (xs.length - (j + 1)) (j + 1)
  rw [show j + 1 + (xs.length - (j + 1)) = xs.length from by omega] at this
  exact this
def bulkShardS (y : Row ShardR) : Nat := y.n + preShard y.l y.l.length
set_option maxHeartbeats 1600000 in
theorem szShardS_k (y : Row ShardR) (left : Int) (w : World) (g : rdShardS w y) (h1 : 0 ≤ left) (h2 : left ≤ 1048576) :
    Calls Try.prog 51 #[.slice y.a y.n y.c, .int .i64 left] w fun e w' => e = .returned (.int .i64 (leftB left (bulkShardS y))) ∧ Below w.heap.size w w' := by
  obtain ⟨a, n, c, xs⟩ := y
  obtain ⟨gr, gi⟩ := g
  simp only at gr gi ⊢
  have hm := gr.max
  have hle := gr.le
  have hL := Lib.hid gr.len
  unfold maxLen at hm
  have HB : Hid (bulkShardS ⟨a, n, c, xs⟩ = n + preShard xs n) := Lib.hid (by unfold bulkShardS; simp only; rw [hL.out])
  by_cases h0 : left < n
  · have HL := Lib.hid (leftB_no (left := left) (n := n + preShard xs n) (by omega))
    go_enter Try.func51, Try.ntmps51
    go_wp2
    go_ret
    exact ⟨by rw [HB.out, HL.out] <;> rfl, Below.refl _ _⟩
  · go_enter Try.func51, Try.ntmps51
    go_wp2
    go_loopw [1, 5] (fun q i wr => ∃ j : Nat, j ≤ n ∧ i = .int .i64 j ∧ q = .int .i64 (left - n - (preShard xs j : Int)) ∧ ((n + preShard xs j : Nat) : Int) ≤ left ∧ Below w.heap.size w wr) (fun _ i _ => n - (intOf i).toNat)
    case atStart => exact ⟨0, Nat.zero_le _, rfl, by unfold preShard; simp, by unfold preShard; simp; omega, Below.refl _ _⟩
    case round =>
      obtain ⟨j, hj, rfl, rfl, hq, hb⟩ := hrel
      by_cases hlt : j < n
      · obtain ⟨b, off, rfl, hbl, hc⟩ := gr.rowShard (by omega)
        obtain ⟨k0, k1, k2⟩ := hc j hlt
        have cb : ∀ o, wr.cell? ⟨b, o, none⟩ = w.cell? ⟨b, o, none⟩ := fun o => hb.cell (p := ⟨b, o, none⟩) hbl
        rw [← cb] at k0 k1 k2
        have hjx : j < xs.length := by rw [hL.out]; exact hlt
        have hps := preShard_succ xs j hjx
        have htop := preShard_top xs j hjx
        rw [hL.out] at htop
        have HP := Lib.hid hps
        have rdx : rdShard wr (atShard xs j) := by
          rw [atShard_eq xs j hjx]
          exact rdShard_below (gi _ (List.getElem_mem hjx)) hb (Nat.le_refl _)
        have hi1 : (j : Int) < (n : Int) := by omega
        clear hc cb gi gr hps
        generalize atShard xs j = x at *
        generalize hpj : preShard xs j = pj at *
        clear hpj
        by_cases hx : left - (n : Int) - (pj : Int) < ((bulkShard x : Nat) : Int)
        · have HN := Lib.hid (leftB_no hx)
          have HL := Lib.hid (leftB_no (left := left) (n := n + preShard xs n) (by omega))
          clear hx
          go_wp2_with fail
          refine (szShard_k x _ _ rdx (by omega) (by omega)).mono ?_
          rintro e w2 ⟨rfl, hb2⟩
          rw [HN.out]
          go_wp2
          go_ret
          exact ⟨by rw [HB.out, HL.out] <;> rfl, hb.trans (hb2.mono hb.size)⟩
        · have HN := Lib.hid (leftB_yes hx)
          go_wp2_with fail
          refine (szShard_k x _ _ rdx (by omega) (by omega)).mono ?_
          rintro e w2 ⟨rfl, hb2⟩
          rw [HN.out]
          have hb3 := hb.trans (hb2.mono hb.size)
          go_wp2
          go_roundw
          case rel => exact ⟨j + 1, by omega, by go_num, by rw [HP.out]; go_num, by rw [HP.out]; omega, hb3⟩
          case measure => simp [intOf]; omega
      · obtain rfl : j = n := by omega
        have HL := Lib.hid (leftB_yes (left := left) (n := j + preShard xs j) (by omega))
        go_wp2
        go_ret
        exact ⟨by rw [HB.out, HL.out]; go_num, hb⟩
theorem infoShard : (Try.prog.info? 47).map (fun i => (i.zero, i.size, i.bytes)) = some (some (.agg (encShard zShard).toArray), 3, 40) := by kernel_rfl
def RetShardS (y : Row ShardR) (w : World) (en : Ending) (w' : World) : Prop := ∃ y' : Row ShardR, en = .returned (.slice y'.a y'.n y'.c) ∧ datShardS y' = datShardS y ∧ OwnShardS w.heap.size w'.heap.size w' y' ∧ bulkShardS y' = bulkShardS y ∧ Below w.heap.size w w'
set_option maxHeartbeats 1600000 in
theorem toShardS_r (y : Row ShardR) (w : World) (g : rdShardS w y) (hn : bulkShardS y ≤ 1048576) : Calls Try.prog 53 #[.slice y.a y.n y.c] w fun e w' => RetShardS y w e w' := by
  obtain ⟨a, n, c, xs⟩ := y
  obtain ⟨gr, gi⟩ := g
  simp only at gr gi ⊢
  have hm := gr.max
  have hle := gr.le
  have hL := Lib.hid gr.len
  unfold maxLen at hm
  have hn2 : n + preShard xs n ≤ 1048576 := by unfold bulkShardS at hn; simp only at hn; rw [hL.out] at hn; exact hn
  clear hn
  obtain ⟨i0, hi, hz0, hz1, hz2⟩ := info_parts infoShard
  go_enter Try.func53, Try.ntmps53
  go_wp2_with (at_make; refine wpList_make_full _ rfl _ _ 77 rfl w.heap.size 47 i0 (.agg (encShard zShard).toArray) 3 Try.underlying77 hi hz0 hz1 _ _ _ _ n rfl rfl rfl rfl ?b1 ?b2 ?b3 ?_)
  case b1 => rw [hz2]; omega
  case b2 => unfold maxLen; omega
  case b3 => simp
  intro w1 hown hgrow
  have hbel := below_grown hgrow (Nat.le_refl _) (by simp)
  have hN1 : OwnN encShard 3 47 encSEdge 5 94 slShard w.heap.size w1.heap.size w1 ⟨some ⟨w.heap.size, 0, none⟩, n, n, [] ++ List.replicate (n - 0) zShard⟩ := by
    have e := made_flat encShard zShard (by decide) n 3 rfl
    have hown' : w1.ownsRow w.heap.size 47 3 (.slice (some ⟨w.heap.size, 0, none⟩) n n) n ((List.replicate n zShard).flatMap encShard) := by rw [← e]; first | exact hown | simpa using hown
    have hsz : w.heap.size < w1.heap.size := (hown'.lt _ rfl).2
    refine ⟨OwnS.of (by simpa using hown') (by simp) (show n ≤ _ by omega), ?_, ?_, ?_⟩
    · intro i hi0
      have : ([] ++ List.replicate (n - 0) zShard)[i]'hi0 = zShard := by simp
      rw [this]
      exact ⟨rfl, World.ownsRow_nil _ _ _ _, fun g hg => by simp [slShard, zShard, Value.ownBlock] at hg, Nat.le_refl _, by decide⟩
    · intro i hi0 g hg
      have : ([] ++ List.replicate (n - 0) zShard)[i]'hi0 = zShard := by simp
      rw [this] at hg
      simp [blkR, slShard, zShard, Value.ownBlock] at hg
    · intro i i' hi0 hi0' _ g hg
      have : ([] ++ List.replicate (n - 0) zShard)[i]'hi0 = zShard := by simp
      rw [this] at hg
      simp [blkR, slShard, zShard, Value.ownBlock] at hg
  clear hown hgrow hi hz0 hz1 hz2
  go_wp2
  go_loopw [4] (fun i wr => ∃ (k : Nat) (ds : List ShardR), k ≤ n ∧ i = .int .i64 k ∧ ds.length = k ∧ ds.map datShard = (xs.take k).map datShard ∧ ds.map bulkShard = (xs.take k).map bulkShard ∧ OwnN encShard 3 47 encSEdge 5 94 slShard w.heap.size wr.heap.size wr ⟨some ⟨w.heap.size, 0, none⟩, n, n, ds ++ List.replicate (n - k) zShard⟩ ∧ Below w.heap.size w wr) (fun i _ => n - (intOf i).toNat)
  case atStart => exact ⟨0, [], Nat.zero_le _, rfl, rfl, rfl, rfl, hN1, hbel⟩
  case round =>
    obtain ⟨k, ds, hk, rfl, hdl, hdd, hdb, hN, hb⟩ := hrel
    have HDL := Lib.hid hdl
    have HDD := Lib.hid hdd
    have HDB := Lib.hid hdb
    clear hdl hdd hdb hN1 hbel
    by_cases hlt : k < n
    · obtain ⟨b, off, rfl, hbl, hc⟩ := gr.rowShard (by omega)
      obtain ⟨k0, k1, k2⟩ := hc k hlt
      have cb : ∀ o, wr.cell? ⟨b, o, none⟩ = w.cell? ⟨b, o, none⟩ := fun o => hb.cell (p := ⟨b, o, none⟩) hbl
      rw [← cb] at k0 k1 k2
      have hkx : k < xs.length := by rw [hL.out]; exact hlt
      have htop := preShard_top xs k hkx
      rw [hL.out] at htop
      have rdx : rdShard wr (atShard xs k) := by
        rw [atShard_eq xs k hkx]
        exact rdShard_below (gi _ (List.getElem_mem hkx)) hb (Nat.le_refl _)
      have HT := Lib.hid (show xs.take (k + 1) = xs.take k ++ [atShard xs k] from by rw [List.take_succ_eq_append_getElem hkx, atShard_eq xs k hkx])
      have hi1 : (k : Int) < (n : Int) := by omega
      clear hc cb gi gr
      generalize atShard xs k = x at *
      go_wp2_with fail
      refine (toShard_k x _ rdx (by omega)).mono ?_
      rintro e w2 ⟨y', rfl, hd', ho', hk', hb2⟩
      have HD' := Lib.hid hd'
      have HK' := Lib.hid hk'
      clear hd' hk' k0 k1 k2
      have hNo : w2.ownsRow w.heap.size 47 3 (.slice (some ⟨w.heap.size, 0, none⟩) n n) n ((ds ++ List.replicate (n - k) zShard).flatMap encShard) := own_below hN.row.own hb2 (Nat.le_refl _)
      have hkl : k < (ds ++ List.replicate (n - k) zShard).length := by simp [HDL.out]; omega
      have hset := flat_set encShard 3 lenShard (ds ++ List.replicate (n - k) zShard) k hkl y'
      have hlist : (ds ++ List.replicate (n - k) zShard).set k y' = (ds ++ [y']) ++ List.replicate (n - (k + 1)) zShard := by
        rw [List.set_append_right _ _ (by rw [HDL.out]; exact Nat.le_refl _), HDL.out, Nat.sub_self, show n - k = (n - (k + 1)) + 1 from by omega, List.replicate_succ, List.set_cons_zero, List.append_assoc]
        rfl
      have hold : (ds ++ List.replicate (n - k) zShard)[k]'hkl = zShard := by
        rw [List.getElem_append_right (by rw [HDL.out]; exact Nat.le_refl _)]
        simp
      have HOLD := Lib.hid hold
      have HLI := Lib.hid hlist
      have HS := Lib.hid hset
      have hsz2 : wr.heap.size ≤ w2.heap.size := hb2.size
      have hszw : w.heap.size < wr.heap.size := by have := hN.row.lt _ rfl; have := hN.row.top; omega
      have HN := Lib.hid hN
      clear hset hlist hold hN
      have hf0 := hNo.frozenAt (k * 3)
      have hf1 := hNo.frozenAt (k * 3 + 1)
      have hf2 := hNo.frozenAt (k * 3 + 2)
      have hd : ∀ i, i < 3 → ∃ d, w2.cell? ⟨w.heap.size, k * 3 + i, none⟩ = some d := fun i hi => by
        rw [hNo.cellAt _ (by omega)]
        exact ⟨_, List.getElem?_eq_getElem (by rw [hNo.1]; omega)⟩
      obtain ⟨d0, hd0⟩ := hd 0 (by omega)
      obtain ⟨d1, hd1⟩ := hd 1 (by omega)
      obtain ⟨d2, hd2⟩ := hd 2 (by omega)
      simp only [Nat.add_zero] at hd0
      clear hd
      have s0 := (hNo.stored (k * 3) (.int .i64 y'.lo)).1
      have s1 := (s0.stored (k * 3 + 1) (.int .i64 y'.hi)).1
      have s2 := (s1.stored (k * 3 + 2) (.slice y'.edgesA y'.edgesN y'.edgesC)).1
      have hw := (((Win.set (lo := w.heap.size) (hi := w.heap.size + 1) w2 w.heap.size (k * 3) (.int .i64 y'.lo) (Nat.le_refl _) (Nat.lt_succ_self _)).trans (Win.set _ w.heap.size (k * 3 + 1) (.int .i64 y'.hi) (Nat.le_refl _) (Nat.lt_succ_self _))).trans (Win.set _ w.heap.size (k * 3 + 2) (.slice y'.edgesA y'.edgesN y'.edgesC) (Nat.le_refl _) (Nat.lt_succ_self _)))
      have SL := Lib.hid s2
      have HW := Lib.hid hw
      clear hNo s2 hw
      go_wp2
      go_roundw
      case rel =>
        refine ⟨k + 1, ds ++ [y'], by omega, by go_num, by simp [HDL.out], by rw [HT.out, List.map_append, List.map_append, HDD.out]; simp [HD'.out], by rw [HT.out, List.map_append, List.map_append, HDB.out]; simp [HK'.out], ?_, (hb.trans (hb2.mono hb.size)).trans (HW.out.below (Nat.le_refl _) (by omega))⟩
        rw [← HLI.out]
        have hrow : OwnS encShard 3 47 w.heap.size w2.heap.size _ (some ⟨w.heap.size, 0, none⟩) n n ((ds ++ List.replicate (n - k) zShard).set k y') :=
          ⟨by simp [HDL.out]; omega, by rw [← HS.out]; exact SL.out, fun g hg => by simp [Value.ownBlock] at hg; omega, by simp only [size_set]; exact Nat.le_refl _, by omega⟩
        refine HN.out.put k (by simp [HDL.out]; omega) y' (hrow.grow (by simp only [size_set]; exact Nat.le_refl _) (Nat.le_refl _)) (((ho'.row.win HW.out (Or.inl hszw)).lo_le (by omega)).grow (by simp only [size_set]; exact Nat.le_refl _) (Nat.le_refl _)) ?_ ?_ (by simp only [size_set]; exact hsz2) (Nat.le_refl _)
        · intro g hg
          right
          exact (World.ownsRow.lt ho'.row.own g hg).1
        · intro q hq hne _
          have hqo : q ≠ w.heap.size := fun e => hne (by rw [e]; rfl)
          rw [HW.out.block q (by omega) (by omega), hb2.block q hq]
      case measure => simp [intOf]; omega
    · obtain rfl : k = n := by omega
      have hN2 : OwnN encShard 3 47 encSEdge 5 94 slShard w.heap.size wr.heap.size wr ⟨some ⟨w.heap.size, 0, none⟩, k, k, ds⟩ := by simpa using hN
      go_wp2
      go_ret
      have hdd := HDD.out
      have hdb := HDB.out
      rw [List.take_of_length_le (by rw [hL.out]; exact Nat.le_refl _)] at hdd hdb
      refine ⟨⟨some ⟨w.heap.size, 0, none⟩, k, k, ds⟩, rfl, hdd, ⟨hN2⟩, ?_, hb⟩
      unfold bulkShardS preShard
      simp only [List.take_length]
      rw [hdb]
theorem toShardS_k (y : Row ShardR) (w : World) (g : rdShardS w y) (hn : bulkShardS y ≤ 1048576) :
    Calls Try.prog 53 #[.slice y.a y.n y.c] w fun e w' => ∃ y' : Row ShardR, e = .returned (.slice y'.a y'.n y'.c) ∧ datShardS y' = datShardS y ∧ OwnShardS w.heap.size w'.heap.size w' y' ∧ bulkShardS y' = bulkShardS y ∧ Below w.heap.size w w' := toShardS_r y w g hn
theorem take_succ_datShard {xs ys : List ShardR} {k : Nat} (h : (xs.take k).map datShard = (ys.take k).map datShard) (h1 : k < xs.length) (h2 : k < ys.length) (he : datShard (atShard xs k) = datShard (atShard ys k)) : (xs.take (k + 1)).map datShard = (ys.take (k + 1)).map datShard := by
  rw [List.take_succ_eq_append_getElem h1, List.take_succ_eq_append_getElem h2, List.map_append, List.map_append, h]
  rw [atShard_eq xs k h1, atShard_eq ys k h2] at he
  simp [he]
theorem ne_datShard {xs ys : List ShardR} {k : Nat} (h1 : k < xs.length) (h2 : k < ys.length) (he : ¬ datShard (atShard xs k) = datShard (atShard ys k)) : ¬ xs.map datShard = ys.map datShard := by
  intro h
  apply he
  have := congrArg (fun l => l[k]?) h
  simp only [List.getElem?_map, List.getElem?_eq_getElem h1, List.getElem?_eq_getElem h2, Option.map_some, Option.some.injEq] at this
  rw [atShard_eq xs k h1, atShard_eq ys k h2]
  exact this
set_option maxHeartbeats 3200000 in
theorem eqShardS_any (a b : Option Addr) (n cap m cap' : Nat) (xs ys : List ShardR) (w : World) (h : rdShardS w ⟨a, n, cap, xs⟩) (h' : rdShardS w ⟨b, m, cap', ys⟩) :
    Calls Try.prog 55 #[.slice a n cap, .slice b m cap'] w fun e w' => e = .returned (.bool (decide (xs.map datShard = ys.map datShard))) ∧ Below w.heap.size w w' := by
  obtain ⟨gr, gi⟩ := h
  obtain ⟨gr', gi'⟩ := h'
  simp only at gr gi gr' gi'
  have hL := Lib.hid gr.len
  have hL' := Lib.hid gr'.len
  have hm := gr.max
  have hle := gr.le
  have hm' := gr'.max
  have hle' := gr'.le
  unfold maxLen at hm hm'
  by_cases hnm : n = m
  · subst hnm
    go_enter Try.func55, Try.ntmps55
    go_wp2
    go_loopw [5] (fun i wr => ∃ k : Nat, k ≤ n ∧ i = .int .i64 k ∧ (xs.take k).map datShard = (ys.take k).map datShard ∧ Below w.heap.size w wr) (fun i _ => n - (intOf i).toNat)
    case atStart => exact ⟨0, Nat.zero_le _, rfl, rfl, Below.refl _ _⟩
    case round =>
      obtain ⟨k, hk, rfl, he, hb⟩ := hrel
      have HE := Lib.hid he
      clear he
      by_cases hlt : k < n
      · obtain ⟨b1, off1, rfl, hbl1, hc1⟩ := gr.rowShard (by omega)
        obtain ⟨b2, off2, rfl, hbl2, hc2⟩ := gr'.rowShard (by omega)
        obtain ⟨k0, k1, k2⟩ := hc1 k hlt
        obtain ⟨l0, l1, l2⟩ := hc2 k hlt
        have cb1 : ∀ o, wr.cell? ⟨b1, o, none⟩ = w.cell? ⟨b1, o, none⟩ := fun o => hb.cell (p := ⟨b1, o, none⟩) hbl1
        have cb2 : ∀ o, wr.cell? ⟨b2, o, none⟩ = w.cell? ⟨b2, o, none⟩ := fun o => hb.cell (p := ⟨b2, o, none⟩) hbl2
        rw [← cb1] at k0 k1 k2
        rw [← cb2] at l0 l1 l2
        have kx : k < xs.length := by rw [hL.out]; exact hlt
        have ky : k < ys.length := by rw [hL'.out]; exact hlt
        have rx : rdShard wr (atShard xs k) := by rw [atShard_eq xs k kx]; exact rdShard_below (gi _ (List.getElem_mem kx)) hb (Nat.le_refl _)
        have ry : rdShard wr (atShard ys k) := by rw [atShard_eq ys k ky]; exact rdShard_below (gi' _ (List.getElem_mem ky)) hb (Nat.le_refl _)
        clear hc1 hc2 cb1 cb2 gr gr' gi gi'
        have hi1 : (k : Int) < (n : Int) := by omega
        have HT := Lib.hid (fun he => take_succ_datShard HE.out kx ky he)
        have HN := Lib.hid (fun he => ne_datShard kx ky he)
        have HRX := Lib.hid rx
        have HRY := Lib.hid ry
        clear rx ry
        generalize hx : atShard xs k = x at *
        generalize hy : atShard ys k = y at *
        clear hx hy
        go_wp2_with fail
        go_region_held3 (fun w' => w'.cell? ⟨b1, off1 + k * 3, none⟩ = some (.int .i64 x.lo) ∧ w'.cell? ⟨b1, off1 + k * 3 + 1, none⟩ = some (.int .i64 x.hi) ∧ w'.cell? ⟨b1, off1 + k * 3 + 2, none⟩ = some (.slice x.edgesA x.edgesN x.edgesC) ∧ w'.cell? ⟨b2, off2 + k * 3, none⟩ = some (.int .i64 y.lo) ∧ w'.cell? ⟨b2, off2 + k * 3 + 1, none⟩ = some (.int .i64 y.hi) ∧ w'.cell? ⟨b2, off2 + k * 3 + 2, none⟩ = some (.slice y.edgesA y.edgesN y.edgesC) ∧ Below wr.heap.size wr w') (first | exact keepd6 (by assumption) | exact keep6 (by assumption) (Nat.le_refl _) (by assumption) | exact ⟨k0, k1, k2, l0, l1, l2, (Below.refl _ _).drew⟩) (first | (go_at_call 27; refine (eqShard_k x y _ _ rfl rfl _ (rdShard_below HRX.out (tail6 (by assumption) : Below wr.heap.size wr _) (Nat.le_refl _)) (rdShard_below HRY.out (tail6 (by assumption) : Below wr.heap.size wr _) (Nat.le_refl _))).mono ?_; rintro e wa ⟨rfl, hba⟩))
        have hb2 : Below wr.heap.size wr _ := tail6 (by assumption)
        have hb3 := hb.trans (hb2.mono hb.size)
        by_cases hxy : datShard x = datShard y
        · have HQ := Lib.hid (decide_eq_true hxy)
          have HT2 := Lib.hid (HT.out hxy)
          rw [HQ.out]
          clear hxy HT HN
          go_wp2
          go_roundw
          case rel => exact ⟨k + 1, by omega, by go_num, HT2.out, hb3⟩
          case measure => simp [intOf]; omega
        · have HQ := Lib.hid (decide_eq_false hxy)
          have HT2 := Lib.hid (decide_eq_false (HN.out hxy))
          rw [HQ.out]
          clear hxy HT HN
          go_wp2
          go_ret
          exact ⟨by rw [HT2.out] <;> rfl, hb3⟩
      · obtain rfl : k = n := by omega
        go_wp2
        go_ret
        refine ⟨?_, hb⟩
        have := HE.out
        rw [List.take_of_length_le (by rw [hL.out]; exact Nat.le_refl _), List.take_of_length_le (by rw [hL'.out]; exact Nat.le_refl _)] at this
        simp [this]
  · have hne : ¬ xs.map datShard = ys.map datShard := fun e => hnm (by have := congrArg List.length e; simp only [List.length_map] at this; rw [← hL.out, ← hL'.out, this])
    have hi1 : ((n : Int) != (m : Int)) = true := by simp; omega
    go_enter Try.func55, Try.ntmps55
    go_wp2
    go_ret
    exact ⟨by simp [hne], Below.refl _ _⟩
theorem eqShardS_k (x y : Row ShardR) (D D' : List (Int × Int × List SEdgeR)) (hD : datShardS x = D) (hD' : datShardS y = D') (w : World) (h : rdShardS w x) (h' : rdShardS w y) :
    Calls Try.prog 55 #[.slice x.a x.n x.c, .slice y.a y.n y.c] w fun e w' => e = .returned (.bool (decide (D = D'))) ∧ Below w.heap.size w w' := by
  subst hD
  subst hD'
  exact eqShardS_any _ _ _ _ _ _ _ _ _ h h'
def stepShard (x : ShardR) : Nat := 2 + cntShard x
def preCShard (xs : List ShardR) (j : Nat) : Nat := ((xs.take j).map stepShard).sum
theorem preCShard_succ (xs : List ShardR) (j : Nat) (h : j < xs.length) : preCShard xs (j + 1) = preCShard xs j + stepShard (atShard xs j) := by
  unfold preCShard
  rw [List.take_succ_eq_append_getElem h, atShard_eq xs j h, List.map_append, List.sum_append]
  simp only [List.map_cons, List.map_nil, List.sum_cons, List.sum_nil, Nat.add_zero]
theorem preCShard_bd (xs : List ShardR) (j : Nat) : preCShard xs j ≤ 1000 * (j + preShard xs j) := by
  induction j with
  | zero => simp [preCShard]
  | succ j ih =>
    by_cases h : j < xs.length
    · rw [preCShard_succ xs j h, preShard_succ xs j h]
      have := cntShard_le (y := atShard xs j) (b := bulkShard (atShard xs j)) (Nat.le_refl _)
      unfold stepShard
      omega
    · have e1 : preCShard xs (j + 1) = preCShard xs j := by unfold preCShard; rw [List.take_of_length_le (by omega), List.take_of_length_le (show xs.length ≤ j by omega)]
      have e2 : preShard xs (j + 1) = preShard xs j := by unfold preShard; rw [List.take_of_length_le (by omega), List.take_of_length_le (show xs.length ≤ j by omega)]
      rw [e1, e2]
      omega
def cntShardS (y : Row ShardR) : Nat := preCShard y.l y.l.length
theorem cntShardS_le {y : Row ShardR} {b : Nat} (hl : y.l.length = y.n) (h : bulkShardS y ≤ b) : cntShardS y ≤ 1000 * b := by
  unfold bulkShardS at h
  unfold cntShardS
  have := preCShard_bd y.l y.l.length
  omega
theorem cntShardS_own {lo hi : Nat} {w : World} {y : Row ShardR} {b : Nat} (h : OwnShardS lo hi w y) (hb : bulkShardS y ≤ b) : cntShardS y ≤ 1000 * b := cntShardS_le h.nest.row.len hb
def markedShard (k : Int) (x : ShardR) : ShardR := ⟨k, k + 1, x.edgesA, x.edgesN, x.edgesC, (mksSEdge (k + 1 + 1) x.edgesN)⟩
/-- After j of the marks. -/
def stLShard (k : Int) (xs : List ShardR) (j : Nat) : List ShardR := (List.range xs.length).map fun i => if i < j then markedShard (k + (preCShard xs i : Int)) (atShard xs i) else atShard xs i
theorem stLShard_len (k : Int) (xs : List ShardR) (j : Nat) : (stLShard k xs j).length = xs.length := by simp [stLShard]
theorem stLShard_get (k : Int) (xs : List ShardR) (j i : Nat) (h : i < (stLShard k xs j).length) : (stLShard k xs j)[i] = if i < j then markedShard (k + (preCShard xs i : Int)) (atShard xs i) else atShard xs i := by simp [stLShard]
theorem stLShard_zero (k : Int) (xs : List ShardR) : stLShard k xs 0 = xs := by
  apply List.ext_getElem
  · rw [stLShard_len]
  · intro i h1 h2
    rw [stLShard_get, if_neg (by omega), atShard_eq xs i h2]
theorem stLShard_set (k : Int) (xs : List ShardR) (j : Nat) (_h : j < xs.length) : (stLShard k xs j).set j (markedShard (k + (preCShard xs j : Int)) (atShard xs j)) = stLShard k xs (j + 1) := by
  apply List.ext_getElem
  · rw [List.length_set, stLShard_len, stLShard_len]
  · intro i h1 h2
    rw [List.getElem_set, stLShard_get _ _ _ _ h2]
    by_cases hji : j = i
    · subst hji; rw [if_pos rfl, if_pos (by omega)]
    · rw [if_neg hji, stLShard_get]
      by_cases hi : i < j
      · rw [if_pos hi, if_pos (by omega)]
      · rw [if_neg hi, if_neg (by omega)]
def HeldShardS (k : Int) (w : World) (y : Row ShardR) : Prop := (bulkShardS y ≤ 1048576 ∧ y.l.length = y.n) ∧ RdN encShard 3 encSEdge 5 slShard w ⟨y.a, y.n, y.c, stLShard k y.l y.l.length⟩
theorem HeldShardS.below {k : Int} {w w' : World} {y : Row ShardR} (h : HeldShardS k w y) (hb : Below w.heap.size w w') : HeldShardS k w' y := ⟨h.1, h.2.below hb (Nat.le_refl _)⟩
theorem set_same {l : List Value} {i : Nat} {c : Value} (h : l[i]? = some c) : l.set i c = l := by
  obtain ⟨hi, rfl⟩ := List.getElem?_eq_some_iff.1 h
  exact List.set_getElem_self hi
set_option maxHeartbeats 3200000 in
theorem markShardS_k (y : Row ShardR) (k : Int) (lo hi : Nat) (w : World) (h : OwnShardS lo hi w y) (hn : bulkShardS y ≤ 1048576) (hk0 : 0 ≤ k) (hk1 : k ≤ 1152921504606846976) :
    Calls Try.prog 56 #[.slice y.a y.n y.c, .int .i64 k] w fun e w' => e = .returned (.int .i64 (k + cntShardS y)) ∧ HeldShardS k w' y ∧ Win lo hi w w' := by
  obtain ⟨a, n, c, xs⟩ := y
  obtain ⟨hN0⟩ := h
  have hL := Lib.hid hN0.row.len
  simp only at hL ⊢
  have HBK := Lib.hid hn
  have hn2 : n + preShard xs n ≤ 1048576 := by unfold bulkShardS at hn; simp only at hn; rw [hL.out] at hn; exact hn
  have hcb := preCShard_bd xs n
  have HCN : Hid (cntShardS ⟨a, n, c, xs⟩ = preCShard xs n) := Lib.hid (by unfold cntShardS; simp only; rw [hL.out])
  rw [← stLShard_zero k xs] at hN0
  clear hn
  go_enter Try.func56, Try.ntmps56
  go_wp2
  go_loopw [1, 5] (fun q i wr => ∃ j : Nat, j ≤ n ∧ i = .int .i64 j ∧ q = .int .i64 (k + (preCShard xs j : Int)) ∧ OwnN encShard 3 47 encSEdge 5 94 slShard lo hi wr ⟨a, n, c, stLShard k xs j⟩ ∧ Win lo hi w wr) (fun _ i _ => n - (intOf i).toNat)
  case atStart => exact ⟨0, Nat.zero_le _, rfl, by unfold preCShard; simp, hN0, Win.refl _ _ _⟩
  case round =>
    obtain ⟨j, hj, rfl, rfl, hN, hb⟩ := hrel
    clear hN0
    by_cases hlt : j < n
    · obtain ⟨g, hga⟩ := own_some hN.row.own (by simp only; omega)
      simp only at hga
      subst hga
      have hg1 := (World.ownsRow.lt hN.row.own g rfl).1
      have hg2 := hN.row.lt g rfl
      have hjx : j < xs.length := by rw [hL.out]; exact hlt
      have hjl : j < (stLShard k xs j).length := by rw [stLShard_len]; exact hjx
      have hget : (stLShard k xs j)[j]'hjl = atShard xs j := by rw [stLShard_get, if_neg (by omega)]
      obtain ⟨b', off', hbo, _, hc⟩ := (hN.row.rd lenShard).rowShard (by simp only; omega)
      simp only [Option.some.injEq, Addr.mk.injEq, and_true] at hbo
      obtain ⟨rfl, rfl⟩ := hbo
      obtain ⟨k0, k1, k2⟩ := hc j hlt
      rw [atShard_eq _ j hjl, hget] at k0 k1 k2
      simp only [Nat.zero_add] at k0 k1 k2
      have hps := preCShard_succ xs j hjx
      have htop := preShard_top xs j hjx
      rw [hL.out] at htop
      have hcj := preCShard_bd xs j
      have hplj := preShard_le xs (n - j) j
      rw [show j + (n - j) = n from by omega] at hplj
      have HP := Lib.hid hps
      have HSET := Lib.hid (stLShard_set k xs j hjx)
      have HFL := Lib.hid (fun x' => flat_set encShard 3 lenShard (stLShard k xs j) j hjl x')
      have hinn := hN.inner j hjl
      have hapt := fun g' hg' => hN.apart j hjl g' hg'
      simp only at hinn hapt
      rw [hget] at hinn
      have HAPT := Lib.hid (fun g' (hg' : blkR (slShard (atShard xs j)) = some g') => hapt g' (by rw [hget]; exact hg'))
      have HHDR : Hid (((stLShard k xs j).flatMap encShard)[j * 3 + 2]? = some (.slice (atShard xs j).edgesA (atShard xs j).edgesN (atShard xs j).edgesC)) := Lib.hid (by rw [← hN.row.own.cellAt _ (by simp only; omega)]; exact k2)
      have HGET := Lib.hid hget
      clear hc hps hget hapt
      have hi1 : (j : Int) < (n : Int) := by omega
      generalize hx : atShard xs j = x at *
      clear hx
      obtain ⟨kk, hkk⟩ : ∃ kk : Int, kk = k + (preCShard xs j : Int) := ⟨_, rfl⟩
      rw [← hkk] at HSET ⊢
      have hkk0 : 0 ≤ kk := by omega
      have hkk1 : kk ≤ 2305843009213690000 := by omega
      have HKK := Lib.hid hkk
      clear hkk
      have hxn : x.edgesN ≤ 1048576 := by unfold bulkShard at htop; omega
      obtain ⟨l, u, htight, hlu⟩ := hinn.tight
      have hf0 := hN.row.own.frozenAt (j * 3)
      have hf1 := hN.row.own.frozenAt (j * 3 + 1)
      have s0 := (hN.row.own.stored (j * 3) (.int .i64 (kk))).1
      have s1 := (s0.stored (j * 3 + 1) (.int .i64 (kk + 1))).1
      have hw1 : Win g (g + 1) wr ((wr.setCell ⟨g, j * 3, none⟩ (.int .i64 (kk))).setCell ⟨g, j * 3 + 1, none⟩ (.int .i64 (kk + 1))) := (((Win.refl g (g + 1) wr).trans (Win.set _ g (j * 3) (.int .i64 (kk)) (Nat.le_refl _) (Nat.lt_succ_self _))).trans (Win.set _ g (j * 3 + 1) (.int .i64 (kk + 1)) (Nat.le_refl _) (Nat.lt_succ_self _)))
      have HLU := Lib.hid hlu
      have HSL := Lib.hid s1
      have HN := Lib.hid hN
      have HW1 := Lib.hid hw1
      have hin1 : OwnS encSEdge 5 94 l u ((wr.setCell ⟨g, j * 3, none⟩ (.int .i64 (kk))).setCell ⟨g, j * 3 + 1, none⟩ (.int .i64 (kk + 1))) x.edgesA x.edgesN x.edgesC x.edges := htight.keep (fun g' hg' => hw1.block g' (by have := htight.lt g' hg'; have := htight.top; omega) (by
        have hne : g' ≠ g := fun e => by subst e; exact HAPT.out g' hg' rfl
        omega)) (Nat.le_refl _) (Nat.le_trans htight.top hw1.size)
      clear hN hw1 hinn hlu
      go_wp2_with fail
      refine (markSEdgeS_any _ _ _ _ (kk + 1 + 1) l u _ hin1 (by omega) (by omega) (by omega)).mono ?_
      rintro e w2 ⟨rfl, ho2, hw2⟩
      have hglu : g < l ∨ u ≤ g := by
        by_cases c1 : l ≤ g ∧ g < u
        · exact absurd (HLU.out g c1.1 c1.2) (fun e => HAPT.out g e rfl)
        · omega
      have hNEW : OwnN encShard 3 47 encSEdge 5 94 slShard lo hi w2 ⟨some ⟨g, 0, none⟩, n, c, stLShard k xs (j + 1)⟩ := by
        rw [← HSET.out]
        have hjl : j < (stLShard k xs j).length := by rw [stLShard_len, hL.out]; exact hlt
        have hsz1 := HW1.out.size
        have hsz2 := hw2.size
        refine HN.out.put j hjl (markedShard kk x) ?_ ?_ ?_ ?_ (Nat.le_refl _) (Nat.le_trans HN.out.row.top (Nat.le_trans hsz1 hsz2))
        · have hlist : ((((stLShard k xs j).flatMap encShard).set (j * 3) (.int .i64 (kk))).set (j * 3 + 1) (.int .i64 (kk + 1))) = ((stLShard k xs j).set j (markedShard kk x)).flatMap encShard := by
            rw [← HFL.out (markedShard kk x)]
            refine (set_same (i := j * 3 + 2) (c := .slice x.edgesA x.edgesN x.edgesC) ?_).symm
            try simp only [List.getElem?_set]
            simp [HHDR.out]
          have hrow0 : World.ownsRow ((wr.setCell ⟨g, j * 3, none⟩ (.int .i64 (kk))).setCell ⟨g, j * 3 + 1, none⟩ (.int .i64 (kk + 1))) lo 47 3 (.slice (some ⟨g, 0, none⟩) n c) n (((stLShard k xs j).set j (markedShard kk x)).flatMap encShard) := by rw [← hlist]; exact HSL.out
          exact ⟨by rw [List.length_set, stLShard_len]; exact hL.out, own_keep hrow0 (fun g' hg' => by cases hg'; exact hw2.block g (by have := HN.out.row.top; omega) hglu), HN.out.row.lt, Nat.le_trans HN.out.row.top (Nat.le_trans hsz1 hsz2), HN.out.row.small⟩
        · have h3 := HN.out.inner j hjl
          rw [HGET.out] at h3
          exact ⟨ho2.len, own_rebase ho2.own (fun g' hg' => (World.ownsRow.lt h3.own g' hg').1), h3.lt, Nat.le_trans h3.top (Nat.le_trans hsz1 hsz2), ho2.small⟩
        · intro g' hg'
          left
          rw [HGET.out]
          exact hg'
        · intro q hq hne1 hne2
          rw [HGET.out] at hne2
          have hqg : q ≠ g := fun e => hne1 (by rw [e]; rfl)
          have hqlu : q < l ∨ u ≤ q := by
            by_cases c1 : l ≤ q ∧ q < u
            · exact absurd (HLU.out q c1.1 c1.2) hne2
            · omega
          rw [hw2.block q (by omega) hqlu, HW1.out.block q hq (by omega)]
      have hWN : Win lo hi w w2 := by
        have h3 := HN.out.inner j (by rw [stLShard_len, hL.out]; exact hlt)
        rw [HGET.out] at h3
        refine hb.trans ((HW1.out.mono hg1 (by omega)).trans ⟨hw2.os, hw2.tape, hw2.output, hw2.size, fun q hq hqq => hw2.block q hq ?_⟩)
        by_cases c1 : l ≤ q ∧ q < u
        · have hbq := HLU.out q c1.1 c1.2
          have e1 := h3.lt q hbq
          have e2 := (World.ownsRow.lt h3.own q hbq).1
          omega
        · omega
      have hfin : kk + 1 + 1 + 5 * (x.edgesN : Int) = k + (preCShard xs (j + 1) : Int) := by
        rw [HP.out, HKK.out]
        unfold stepShard cntShard
        omega
      have HFIN := Lib.hid hfin
      have HNEW := Lib.hid hNEW
      clear hfin hNEW hin1 ho2 htight
      go_wp2
      go_roundw
      case rel => exact ⟨j + 1, by omega, by go_num, by rw [← HFIN.out] <;> go_num, HNEW.out, hWN⟩
      case measure => simp [intOf]; omega
    · obtain rfl : j = n := by omega
      go_wp2
      go_ret
      exact ⟨by rw [HCN.out] <;> rfl, ⟨⟨HBK.out, hL.out⟩, by have := hN.rd lenShard lenSEdge; simp only; rw [hL.out]; exact this⟩, hb⟩
end Go.Proofs.Ytifaekkbdmcehaa
